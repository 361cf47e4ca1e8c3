/- Walks: RosterValid of the program. -/
import Derived.Test.YtckjagpjljbohaaRuLaw
namespace Go.Proofs.Ytckjagpjljbohaa
open Go.RowKit

set_option maxRecDepth 100000 in
set_option maxHeartbeats 1000000 in
theorem implRosterValid_any (A : Option Addr) (rs : List (Int × Int)) (m cap : Nat) (rest : Int) (B : Option Addr) (ro : List Int) (q capB : Nat) (w : World) (r : Bool) (hl : rs.length = m) (hm : m ≤ 1048576) (hr : Rd w A (fl2 rs)) (hlb : ro.length = q) (hq : q ≤ 1048576) (hs : Rd w B (fl1 ro)) (hv : rosterValid rs rest ro = r) :
    Calls Try.prog 11 #[.slice A m cap, .int .i64 rest, .slice B q capB] w (Ret w (.bool r)) := by
  have Hl := hideIt hl
  have Hlb := hideIt hlb
  cases h1 : runsValid rs
  · have Hf := hideIt (show r = false by rw [← hv, rosterValid, runsRest, h1, Bool.false_and, Bool.false_and])
    have H1 := hideIt h1
    clear hv h1 hl hlb
    go_enter Try.func11, Try.ntmps11
    go_wp2_with fail
    refine (implRunsValid_any _ _ _ _ _ _ Hl.out hm hr H1.out).mono ?_
    rintro e w1 ⟨rfl, hb1⟩
    go_wp2
    go_ret
    exact ⟨ret_bool Hf.out.symm, hb1⟩
  cases h2 : (decide (0 ≤ rest) && decide (rest ≤ 600))
  · have Hf := hideIt (show r = false by rw [← hv, rosterValid, runsRest, h1, h2]; rfl)
    have H1 := hideIt h1
    have H2 := hideIt h2
    clear hv h1 h2 hl hlb
    go_enter Try.func11, Try.ntmps11
    go_wp2_with fail
    refine (implRunsValid_any _ _ _ _ _ _ Hl.out hm hr H1.out).mono ?_
    rintro e w1 ⟨rfl, hb1⟩
    go_wp2_with fail
    refine (restValid_any _ _ _ H2.out).mono ?_
    rintro e w2 ⟨rfl, rfl⟩
    go_wp2
    go_ret
    exact ⟨ret_bool Hf.out.symm, hb1⟩
  by_cases hmq : q = m
  rotate_left
  · have Hf := hideIt (show r = false by rw [← hv, rosterValid, decide_eq_false (show ¬ ro.length = rs.length by omega), Bool.false_and, Bool.and_false])
    have H1 := hideIt h1
    have H2 := hideIt h2
    have hne : ((q : Int) != (m : Int)) = true := by simp; omega
    clear hv h1 h2 hl hlb
    go_enter Try.func11, Try.ntmps11
    go_wp2_with fail
    refine (implRunsValid_any _ _ _ _ _ _ Hl.out hm hr H1.out).mono ?_
    rintro e w1 ⟨rfl, hb1⟩
    go_wp2_with fail
    refine (restValid_any _ _ _ H2.out).mono ?_
    rintro e w2 ⟨rfl, rfl⟩
    go_wp2
    go_ret
    exact ⟨ret_bool Hf.out.symm, hb1⟩
  subst hmq
  have hrr : runsRest rs rest = true := by rw [runsRest, h1, h2]; rfl
  have Hv := hideIt (show rosterTo rs rest ro q = r by rw [← hv, rosterValid, hrr, decide_eq_true (show ro.length = rs.length by omega), hlb]; rfl)
  have H1 := hideIt h1
  have H2 := hideIt h2
  have Hin := hideIt (runsRest_in hrr)
  clear hv h1 h2 hl hlb hrr
  go_enter Try.func11, Try.ntmps11
  go_wp2_with fail
  refine (implRunsValid_any _ _ _ _ _ _ Hl.out hm hr H1.out).mono ?_
  rintro e w1 ⟨rfl, hb1⟩
  go_wp2_with fail
  refine (restValid_any _ _ _ H2.out).mono ?_
  rintro e w2 ⟨rfl, rfl⟩
  have hrow0 : (w1.alloc (.cells #[.int .i64 0, .int .i64 0, .int .i64 0, .int .i64 0, .int .i64 0, .int .i64 0, .int .i64 0, .int .i64 0, .int .i64 0, .int .i64 0, .int .i64 0, .int .i64 0] 48)).ownsRow w1.heap.size 48 1 (.slice (some ⟨w1.heap.size, 0, none⟩) 12 12) 12 (fl1 (List.replicate 12 0)) :=
    World.ownsRow_lit (base := w1.heap.size) (e := 48) (size := 1) w1 #[.int .i64 0, .int .i64 0, .int .i64 0, .int .i64 0, .int .i64 0, .int .i64 0, .int .i64 0, .int .i64 0, .int .i64 0, .int .i64 0, .int .i64 0, .int .i64 0] 12 (Nat.le_refl _) (by unfold maxLen; omega) rfl
  go_wp2
  go_loopw [28] (fun j wr => ∃ (k : Nat) (fr : List Int), k ≤ q ∧ j = .int .i64 k ∧ rosterTo rs rest ro k = true ∧ FreeAt rs rest ro k fr ∧ wr.ownsRow w1.heap.size 48 1 (.slice (some ⟨w1.heap.size, 0, none⟩) 12 12) 12 (fl1 fr) ∧ Below w.heap.size w wr) (fun j _ => q - (intOf j).toNat)
  case atStart => exact ⟨0, _, by omega, rfl, rfl, FreeAt.start rs rest ro, hrow0, hb1.alloc hb1.size _⟩
  case round =>
    obtain ⟨k, fr, hk, rfl, hto, hfr, hrow, hbw⟩ := hrel
    have Hto := hideIt hto
    have Hfr := hideIt hfr
    clear hto hfr hrow0
    by_cases hlt : k < q
    · have hkl : k < rs.length := by rw [Hl.out]; exact hlt
      have hkq : k < ro.length := by rw [Hlb.out]; exact hlt
      obtain ⟨b, off, rfl, hb, hc⟩ := (hr.below hbw (Nat.le_refl _)).at2 hkl
      obtain ⟨bo, offo, rfl, hbo, hco⟩ := (hs.below hbw (Nat.le_refl _)).at1 hkq
      obtain ⟨hx, hy⟩ := hc k hkl
      have ht := hco k hkq
      obtain ⟨_, ⟨r0, r1⟩, hin⟩ := Hin.out
      obtain ⟨i1, i2, i3⟩ := hin k hkl
      have hkm : (k : Int) < (q : Int) := by omega
      have hone : rosterOne rs rest ro k = ((decide (0 ≤ a1 ro k) && decide (a1 ro k ≤ 11)) && canOf rs rest ro k (a1 ro k) k) := rfl
      by_cases ct : a1 ro k < 0 ∨ 12 ≤ a1 ro k
      · have Hf := hideIt (show false = r by rw [← Hv.out, rosterTo_no (by rw [hone, show (decide (0 ≤ a1 ro k) && decide (a1 ro k ≤ 11)) = false by simp; omega, Bool.false_and]) q hlt])
        obtain ⟨t, ht'⟩ : ∃ t, a1 ro k = t := ⟨_, rfl⟩
        rw [ht'] at ht ct
        clear hc hco hone ht' hin hkl hkq
        rcases ct with ct | ct
        · go_wp2
          go_quiet (fail)
          go_wp2
          go_ret
          exact ⟨ret_bool Hf.out, below_drewN hbw _⟩
        · have hd : decide (t < 0) = false := by simp; omega
          go_wp2
          go_quiet (fail)
          go_wp2
          go_ret
          exact ⟨ret_bool Hf.out, below_drewN hbw _⟩
      · obtain ⟨t, ht'⟩ := Int.eq_ofNat_of_zero_le (show 0 ≤ a1 ro k by omega)
        have ht12 : t < 12 := by omega
        have hcan := Hfr.out.can ht12 i1
        rw [ht', hcan, show (decide (0 ≤ (t : Int)) && decide ((t : Int) ≤ 11)) = true by simp; omega, Bool.true_and] at hone
        have hnx := fun h => Hfr.out.next ht12 ht' h i2 r0
        have hfl := Hfr.out.1
        have hcell := row1_a hrow (k := t) (by omega)
        have hfz := hrow.frozenAt
        have hst := row1_store hrow (k := t) (by omega) (b2 rs k + rest)
        rw [ht'] at ht
        obtain ⟨s, hs'⟩ : ∃ s, a2 rs k = s := ⟨_, rfl⟩
        obtain ⟨e, he⟩ : ∃ e, b2 rs k = e := ⟨_, rfl⟩
        obtain ⟨f, hf⟩ : ∃ f, a1 fr t = f := ⟨_, rfl⟩
        rw [hs'] at hx hone i1 i2
        rw [he] at hy i2 i3 hst
        rw [hf] at hcell hone
        rw [hs', he, hf] at hnx
        have Hone := hideIt hone
        have Hnx : Hid (f ≤ s → FreeAt rs rest ro (k + 1) (fr.set t (e + rest))) := hideIt hnx
        have ht3 : (t : Int) < 12 := by omega
        have hd0 : decide ((t : Int) < 0) = false := by simp
        have hd1 : decide (12 ≤ (t : Int)) = false := by simp; omega
        clear hc hco hone hin hkl hkq ht' hcan hnx hs' he hf ct
        by_cases cf : s < f
        · have Hf := hideIt (show false = r by rw [← Hv.out, rosterTo_no (by rw [Hone.out, decide_eq_false (by omega)]) q hlt])
          go_wp2
          go_quiet (fail)
          go_wp2
          go_ret
          exact ⟨ret_bool Hf.out, below_drewN hbw _⟩
        · have Ht := hideIt (show rosterTo rs rest ro (k + 1) = true by rw [rosterTo, Hto.out, Hone.out, decide_eq_true (by omega)]; rfl)
          have Hnx2 := hideIt (Hnx.out (by omega))
          have hd2 : decide (s < f) = false := decide_eq_false cf
          clear cf
          go_wp2
          go_quiet (fail)
          go_wp2
          go_roundw
          case rel => exact ⟨k + 1, _, by omega, by go_num, Ht.out, Hnx2.out, hst, (below_drewN hbw _).setCell (p := ⟨w1.heap.size, t, none⟩) (by have := hb1.size; exact this) _⟩
          case measure => simp [intOf]; omega
    · obtain rfl : k = q := by omega
      have Hy := hideIt (show true = r by rw [← Hv.out, Hto.out])
      go_wp2
      go_ret
      exact ⟨ret_bool Hy.out, hbw⟩
end Go.Proofs.Ytckjagpjljbohaa

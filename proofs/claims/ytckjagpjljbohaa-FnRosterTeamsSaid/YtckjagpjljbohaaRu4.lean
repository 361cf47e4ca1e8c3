/- Walks: RosterValid of the reference. -/
import Derived.Test.YtckjagpjljbohaaRu3
namespace Go.Proofs.Ytckjagpjljbohaa
open Go.RowKit

/-- one run's team can begin it -/
def rosterOne (rs : List (Int × Int)) (rest : Int) (ro : List Int) (i : Nat) : Bool := (decide (0 ≤ a1 ro i) && decide (a1 ro i ≤ 11)) && canOf rs rest ro i (a1 ro i) i
def rosterTo (rs : List (Int × Int)) (rest : Int) (ro : List Int) : Nat → Bool
  | 0 => true
  | k + 1 => rosterTo rs rest ro k && rosterOne rs rest ro k
theorem rosterTo_no {rs : List (Int × Int)} {rest : Int} {ro : List Int} {k : Nat} (h : rosterOne rs rest ro k = false) : ∀ n, k < n → rosterTo rs rest ro n = false := by
  intro n
  induction n with
  | zero => intro h; omega
  | succ n ih =>
    intro hk
    rw [rosterTo]
    by_cases e : k = n
    · subst e; rw [h, Bool.and_false]
    · rw [ih (by omega), Bool.false_and]
def rosterValid (rs : List (Int × Int)) (rest : Int) (ro : List Int) : Bool := runsRest rs rest && (decide (ro.length = rs.length) && rosterTo rs rest ro ro.length)

set_option maxRecDepth 100000 in
set_option maxHeartbeats 1000000 in
theorem specRosterValid_any (A : Option Addr) (rs : List (Int × Int)) (m cap : Nat) (rest : Int) (B : Option Addr) (ro : List Int) (q capB : Nat) (w : World) (r : Bool) (hl : rs.length = m) (hm : m ≤ 1048576) (hr : Rd w A (fl2 rs)) (hlb : ro.length = q) (hq : q ≤ 1048576) (hs : Rd w B (fl1 ro)) (hv : rosterValid rs rest ro = r) :
    Calls Try.prog 12 #[.slice A m cap, .int .i64 rest, .slice B q capB] w (Ret w (.bool r)) := by
  have Hl := hideIt hl
  have Hlb := hideIt hlb
  cases h1 : runsRest rs rest
  · have Hf := hideIt (show r = false by rw [← hv, rosterValid, h1, Bool.false_and])
    have H1 := hideIt h1
    clear hv h1 hl hlb
    go_enter Try.func12, Try.ntmps12
    go_wp2_with fail
    refine (l3Ok_any _ _ _ _ _ _ _ Hl.out hm hr H1.out).mono ?_
    rintro e w1 ⟨rfl, hb1⟩
    go_wp2
    go_ret
    exact ⟨ret_bool Hf.out.symm, hb1⟩
  by_cases hmq : q = m
  rotate_left
  · have Hf := hideIt (show r = false by rw [← hv, rosterValid, h1, decide_eq_false (by omega)]; rfl)
    have H1 := hideIt h1
    clear hv h1 hl hlb
    have hne : ((q : Int) != (m : Int)) = true := by simp; omega
    go_enter Try.func12, Try.ntmps12
    go_wp2_with fail
    refine (l3Ok_any _ _ _ _ _ _ _ Hl.out hm hr H1.out).mono ?_
    rintro e w1 ⟨rfl, hb1⟩
    go_wp2
    go_ret
    exact ⟨ret_bool Hf.out.symm, hb1⟩
  subst hmq
  have Hv := hideIt (show rosterTo rs rest ro q = r by rw [← hv, rosterValid, h1, decide_eq_true (by omega), hlb]; rfl)
  have H1 := hideIt h1
  clear hv h1 hl hlb
  go_enter Try.func12, Try.ntmps12
  go_wp2_with fail
  refine (l3Ok_any _ _ _ _ _ _ _ Hl.out hm hr H1.out).mono ?_
  rintro e w1 ⟨rfl, hb1⟩
  go_wp2
  go_loopw [7] (fun j wr => ∃ k : Nat, k ≤ q ∧ j = .int .i64 k ∧ rosterTo rs rest ro k = true ∧ Below w.heap.size w wr) (fun j _ => q - (intOf j).toNat)
  case atStart => exact ⟨0, by omega, rfl, rfl, hb1⟩
  case round =>
    clear hb1
    obtain ⟨k, hk, rfl, hto, hbw⟩ := hrel
    have Hto := hideIt hto
    clear hto
    by_cases hlt : k < q
    · have hkq : k < ro.length := by rw [Hlb.out]; exact hlt
      have hs2 := hs.below hbw (Nat.le_refl _)
      obtain ⟨bo, offo, rfl, hbo, hco⟩ := hs2.at1 hkq
      have ht := hco k hkq
      have hone : rosterOne rs rest ro k = ((decide (0 ≤ a1 ro k) && decide (a1 ro k ≤ 11)) && canOf rs rest ro k (a1 ro k) k) := rfl
      obtain ⟨t, ht'⟩ : ∃ t, a1 ro k = t := ⟨_, rfl⟩
      rw [ht'] at ht hone
      obtain ⟨c1, hc1⟩ : ∃ c, (decide (0 ≤ t) && decide (t ≤ 11)) = c := ⟨_, rfl⟩
      obtain ⟨c2, hc2⟩ : ∃ c, canOf rs rest ro k t k = c := ⟨_, rfl⟩
      rw [hc1, hc2] at hone
      have Hone := hideIt hone
      have Hc1 := hideIt hc1
      have Hc2 := hideIt hc2
      have hkm : (k : Int) < (q : Int) := by omega
      clear hco hkq ht' hone hc1 hc2
      cases c1
      · have Hf := hideIt (show false = r by rw [← Hv.out, rosterTo_no (by rw [Hone.out]; rfl) q hlt])
        go_wp2_with fail
        refine (l6In_any _ _ _ _ _ Hc1.out).mono ?_
        rintro e w2 ⟨rfl, rfl⟩
        go_wp2
        go_ret
        exact ⟨ret_bool Hf.out, hbw⟩
      · go_wp2_with fail
        refine (l6In_any _ _ _ _ _ Hc1.out).mono ?_
        rintro e w2 ⟨rfl, rfl⟩
        go_wp2_with fail
        refine (l3Can_any _ _ _ _ _ _ _ _ _ _ _ _ _ Hl.out (hr.below hbw (Nat.le_refl _)) Hlb.out hs2 H1.out hlt (by omega) Hc2.out).mono ?_
        rintro e w3 ⟨rfl, hb3⟩
        have hb4 := hbw.trans (hb3.mono hbw.size)
        cases c2
        · have Hf := hideIt (show false = r by rw [← Hv.out, rosterTo_no (by rw [Hone.out]; rfl) q hlt])
          go_wp2
          go_ret
          exact ⟨ret_bool Hf.out, hb4⟩
        · have Ht := hideIt (show rosterTo rs rest ro (k + 1) = true by rw [rosterTo, Hto.out, Hone.out]; rfl)
          go_wp2
          go_roundw
          case rel => exact ⟨k + 1, by omega, by go_num, Ht.out, hb4⟩
          case measure => simp [intOf]; omega
    · obtain rfl : k = q := by omega
      have Hy := hideIt (show true = r by rw [← Hv.out, Hto.out])
      go_wp2
      go_ret
      exact ⟨ret_bool Hy.out, hbw⟩
end Go.Proofs.Ytckjagpjljbohaa

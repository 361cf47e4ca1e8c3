/- Walks: l3Can of the reference. -/
import Derived.Test.YtckjagpjljbohaaRu2
namespace Go.Proofs.Ytckjagpjljbohaa
open Go.RowKit

/-- an earlier run does not keep a team from a run -/
def canOne (rs : List (Int × Int)) (rest : Int) (ro : List Int) (i : Nat) (team : Int) (k : Nat) : Bool := !(decide (a1 ro k = team) && decide (a2 rs i < b2 rs k + rest))
/-- the first runs do not -/
def canOf (rs : List (Int × Int)) (rest : Int) (ro : List Int) (i : Nat) (team : Int) : Nat → Bool
  | 0 => true
  | k + 1 => canOf rs rest ro i team k && canOne rs rest ro i team k
theorem canOf_no {rs : List (Int × Int)} {rest : Int} {ro : List Int} {i : Nat} {team : Int} {k : Nat} (h : canOne rs rest ro i team k = false) : ∀ n, k < n → canOf rs rest ro i team n = false := by
  intro n
  induction n with
  | zero => intro h; omega
  | succ n ih =>
    intro hk
    rw [canOf]
    by_cases e : k = n
    · subst e; rw [h, Bool.and_false]
    · rw [ih (by omega), Bool.false_and]
theorem runs_in : ∀ (rs : List (Int × Int)) (p : Int), 0 ≤ p → runsOk p rs = true → ∀ k, k < rs.length → 0 ≤ a2 rs k ∧ a2 rs k < b2 rs k ∧ b2 rs k ≤ 10000 := by
  intro rs
  induction rs with
  | nil => intro p _ _ k hk; simp at hk
  | cons r rs ih =>
    intro p hp h k hk
    rw [runsOk, Bool.and_eq_true] at h
    have h1 := h.1
    simp only [runOk, Bool.and_eq_true, decide_eq_true_eq] at h1
    cases k with
    | zero => simp only [a2, b2, List.getD_cons_zero]; omega
    | succ k => exact ih r.1 (by omega) h.2 k (by simpa using hk)
theorem runsRest_in {rs : List (Int × Int)} {rest : Int} (h : runsRest rs rest = true) : rs.length ≤ 12 ∧ (0 ≤ rest ∧ rest ≤ 600) ∧ ∀ k, k < rs.length → 0 ≤ a2 rs k ∧ a2 rs k < b2 rs k ∧ b2 rs k ≤ 10000 := by
  simp only [runsRest, runsValid, Bool.and_eq_true, decide_eq_true_eq] at h
  exact ⟨h.1.1, h.2, runs_in rs 0 (by omega) h.1.2⟩

set_option maxRecDepth 100000 in
set_option maxHeartbeats 1000000 in
theorem l3Can_any (A : Option Addr) (rs : List (Int × Int)) (m cap : Nat) (rest : Int) (B : Option Addr) (ro : List Int) (q capB : Nat) (i : Nat) (team : Int) (w : World) (r : Bool) (hl : rs.length = m) (hr : Rd w A (fl2 rs)) (hlb : ro.length = q) (hs : Rd w B (fl1 ro)) (hv : runsRest rs rest = true) (him : i < m) (hiq : i ≤ q) (hc : canOf rs rest ro i team i = r) :
    Calls Try.prog 24 #[.slice A m cap, .int .i64 rest, .slice B q capB, .int .i64 i, .int .i64 team] w (Ret w (.bool r)) := by
  obtain ⟨h12, ⟨r0, r1⟩, hin⟩ := runsRest_in hv
  have Hin : Hid (∀ k, k < rs.length → 0 ≤ a2 rs k ∧ a2 rs k < b2 rs k ∧ b2 rs k ≤ 10000) := hideIt hin
  have Hl := hideIt hl
  have Hlb := hideIt hlb
  have Hc := hideIt hc
  rw [hl] at h12
  clear hin hv hl hlb hc
  have q0 : (i : Int) ≤ (q : Int) := by omega
  have himi : (i : Int) < (m : Int) := by omega
  go_enter Try.func24, Try.ntmps24
  go_wp2
  go_loopw [11] (fun j wr => ∃ k : Nat, k ≤ i ∧ j = .int .i64 k ∧ canOf rs rest ro i team k = true ∧ Below w.heap.size w wr) (fun j _ => i - (intOf j).toNat)
  case atStart => exact ⟨0, by omega, rfl, rfl, Below.refl _ _⟩
  case round =>
    obtain ⟨k, hk, rfl, hcan, hbw⟩ := hrel
    have Hcan := hideIt hcan
    clear hcan
    by_cases hlt : k < i
    · have hkl : k < rs.length := by rw [Hl.out]; omega
      have hil : i < rs.length := by rw [Hl.out]; exact him
      have hkq : k < ro.length := by rw [Hlb.out]; omega
      obtain ⟨b, off, rfl, hb, hc⟩ := (hr.below hbw (Nat.le_refl _)).at2 hkl
      obtain ⟨bo, offo, rfl, hbo, hco⟩ := (hs.below hbw (Nat.le_refl _)).at1 hkq
      obtain ⟨_, hy⟩ := hc k hkl
      obtain ⟨hx, _⟩ := hc i hil
      have ht := hco k hkq
      obtain ⟨i1, i2, i3⟩ := Hin.out i hil
      obtain ⟨k1, k2, k3⟩ := Hin.out k hkl
      have hone : canOne rs rest ro i team k = !(decide (a1 ro k = team) && decide (a2 rs i < b2 rs k + rest)) := rfl
      obtain ⟨s, hs'⟩ : ∃ s, a2 rs i = s := ⟨_, rfl⟩
      obtain ⟨e, he⟩ : ∃ e, b2 rs k = e := ⟨_, rfl⟩
      obtain ⟨t, ht'⟩ : ∃ t, a1 ro k = t := ⟨_, rfl⟩
      rw [hs'] at hx hone i1 i2
      rw [he] at hy hone k2 k3
      rw [ht'] at ht hone
      have Hone := hideIt hone
      have hkm : (k : Int) < (m : Int) := by omega
      have hkq2 : (k : Int) < (q : Int) := by omega
      have e0 : 0 ≤ e := by omega
      have s1 : s ≤ 10000 := by omega
      clear hc hco hkl hil hkq hs' he ht' hone k1 k2 i2 i3
      by_cases c1 : t = team
      · by_cases c2 : s < e + rest
        · have Hf := hideIt (show false = r by rw [← Hc.out, canOf_no (by rw [Hone.out, decide_eq_true c1, decide_eq_true c2]; rfl) i hlt])
          have hd1 : (t == team) = true := by simp [c1]
          clear c1
          go_wp2
          go_quiet (fail)
          go_wp2
          go_ret
          exact ⟨ret_bool Hf.out, below_drewN hbw _⟩
        · have Ht := hideIt (show canOf rs rest ro i team (k + 1) = true by rw [canOf, Hcan.out, Hone.out, decide_eq_true c1, decide_eq_false c2]; rfl)
          have hd1 : (t == team) = true := by simp [c1]
          have hd2 : decide (s < e + rest) = false := decide_eq_false c2
          clear c1 c2
          go_wp2
          go_quiet (fail)
          go_wp2
          go_roundw
          case rel => exact ⟨k + 1, by omega, by go_num, Ht.out, below_drewN hbw _⟩
          case measure => simp [intOf]; omega
      · have Ht := hideIt (show canOf rs rest ro i team (k + 1) = true by rw [canOf, Hcan.out, Hone.out, decide_eq_false c1]; rfl)
        have hd1 : (t == team) = false := by simp [c1]
        clear c1
        go_wp2
        go_quiet (fail)
        go_wp2
        go_roundw
        case rel => exact ⟨k + 1, by omega, by go_num, Ht.out, below_drewN hbw _⟩
        case measure => simp [intOf]; omega
    · obtain rfl : k = i := by omega
      have Hy := hideIt (show true = r by rw [← Hc.out, Hcan.out])
      go_wp2
      go_ret
      exact ⟨ret_bool Hy.out, hbw⟩
end Go.Proofs.Ytckjagpjljbohaa

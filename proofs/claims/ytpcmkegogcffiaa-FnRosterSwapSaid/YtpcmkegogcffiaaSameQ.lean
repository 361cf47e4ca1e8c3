/- Walks: sameInts of the laws, for a region that draws its order: nothing but the drawing has turned. -/
import Derived.Test.YtpcmkegogcffiaaSame
import Derived.Deep.QuietTactic
namespace Go.Proofs.Ytpcmkegogcffiaa
open Go.RowKit

theorem drew_more {w wr : World} (h : ∃ t, wr = w.drewN t) (n : Nat) : ∃ t, wr.drewN n = w.drewN t := by
  obtain ⟨t, rfl⟩ := h
  exact ⟨t + n, World.drewN_drewN _ _ _⟩
theorem Rd.drewT {w wr : World} {A : Option Addr} {cs : List Value} (h : Rd w A cs) (hd : ∃ t, wr = w.drewN t) : Rd wr A cs := by
  obtain ⟨t, rfl⟩ := hd
  exact h
theorem quiet_addQ {P : Program} {f : FuncId} {args : Array Value} {w : World} {a n : Nat} {v : Value}
    (h : Calls P f args (w.drewN (a + n)) fun e w' => e = .returned v ∧ ∃ m, w' = (w.drewN (a + n)).drewN m) :
    Calls P f args (w.drewN (a + n)) fun e w'' => e = .returned v ∧ ∃ m, w'' = w.drewN (a + m) :=
  h.mono fun _ _ ⟨he, m, hm⟩ => ⟨he, n + m, by rw [hm, World.drewN_drewN, Nat.add_assoc]⟩
theorem quiet_leftQ {P : Program} {f : FuncId} {args : Array Value} {w : World} {n : Nat} {v : Value}
    (h : Calls P f args (w.drewN n) fun e w' => e = .returned v ∧ w.drewN n = w') : Calls P f args (w.drewN n) fun e w'' => e = .returned v ∧ ∃ m, w'' = w.drewN m :=
  h.mono fun _ _ ⟨he, hm⟩ => ⟨he, n, hm.symm⟩
set_option maxHeartbeats 400000 in
theorem sameInts_q (A B : Option Addr) (ps qs : List Int) (n m cap cap' : Nat) (w : World) (hl : ps.length = n) (hl' : qs.length = m) (hn : n ≤ 1048576) (hm : m ≤ 1048576) (hr : Rd w A (fl1 ps)) (hs : Rd w B (fl1 qs)) :
    Calls Try.prog 15 #[.slice A n cap, .slice B m cap'] w fun e w' => e = .returned (.bool (decide (ps = qs))) ∧ ∃ t, w' = w.drewN t := by
  subst hl
  subst hl'
  by_cases hne : ps.length = qs.length
  · rw [← hne]
    rw [← hne] at hm
    go_enter Try.func15, Try.ntmps15
    go_wp2
    go_loopw [5] (fun i wr => ∃ k : Nat, k ≤ ps.length ∧ i = .int .i64 k ∧ decide (ps.drop k = qs.drop k) = decide (ps = qs) ∧ ∃ t, wr = w.drewN t) (fun i _ => ps.length - (intOf i).toNat)
    case atStart => exact ⟨0, by omega, rfl, rfl, 0, rfl⟩
    case round =>
      obtain ⟨k, hk, rfl, hrec, hbw⟩ := hrel
      have Hrec := hideIt hrec
      have Hne := hideIt hne
      have Hbw : Hid (∃ t, wr = w.drewN t) := hideIt hbw
      have hr2 := hr.drewT hbw
      have hs2 := hs.drewT hbw
      clear hrec hne hbw
      by_cases hlt : k < ps.length
      · obtain ⟨b, off, rfl, hb, hc⟩ := hr2.at1 hlt
        obtain ⟨b', off', rfl, hb', hc'⟩ := hs2.at1 (k := k) (by rw [← Hne.out]; exact hlt)
        have hx := hc k hlt
        have hx' := hc' k (by rw [← Hne.out]; exact hlt)
        have Hst := hideIt (eq_step1 ps qs k hlt (by rw [← Hne.out]; exact hlt))
        clear hc hc' hr hs hr2 hs2
        cases he : decide (a1 ps k = a1 qs k)
        · have he' : (a1 ps k != a1 qs k) = true := by simpa using he
          have He := hideIt he
          clear he
          go_wp2
          go_quiet (fail)
          go_wp2
          go_ret
          exact ⟨ret_bool (by rw [← Hrec.out, Hst.out, He.out, Bool.false_and]), drew_more Hbw.out _⟩
        · have he' : (a1 ps k != a1 qs k) = false := by simpa using he
          have He := hideIt he
          clear he
          go_wp2
          go_quiet (fail)
          go_wp2
          go_roundw
          case rel => exact ⟨k + 1, by omega, by go_num, by rw [← Hrec.out, Hst.out, He.out, Bool.true_and], drew_more Hbw.out _⟩
          case measure => simp [intOf]; omega
      · go_wp2
        go_ret
        obtain rfl : k = ps.length := by omega
        refine ⟨ret_bool ?_, Hbw.out⟩
        rw [← Hrec.out]
        simp [Hne.out]
  · have hne' : ((ps.length : Int) == (qs.length : Int)) = false := by simp; omega
    go_enter Try.func15, Try.ntmps15
    go_wp2
    go_ret
    refine ⟨ret_bool ?_, 0, rfl⟩
    rw [eq_comm]
    simp
    rintro rfl
    exact hne rfl
end Go.Proofs.Ytpcmkegogcffiaa

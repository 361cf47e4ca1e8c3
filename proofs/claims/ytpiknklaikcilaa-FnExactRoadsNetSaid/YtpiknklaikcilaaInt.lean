/- Walks: the exact laws' helpers for ints. -/
import Derived.Test.YtpiknklaikcilaaProg
import Derived.Test.YtpiknklaikcilaaBase
import Derived.BigQuiet
namespace Go.Proofs.Ytpiknklaikcilaa
open Go.RowKit

set_option maxHeartbeats 400000 in
theorem eqIntS_any (A B : Option Addr) (ps qs : List Int) (n m cap cap' : Nat) (w : World) (hl : ps.length = n) (hl' : qs.length = m) (hn : n ≤ 1048576) (hm : m ≤ 1048576) (hr : Rd w A (fl1 ps)) (hs : Rd w B (fl1 qs)) :
    Calls Try.prog 19 #[.slice A n cap, .slice B m cap'] w (Ret w (.bool (decide (ps = qs)))) := by
  subst hl
  subst hl'
  by_cases hne : ps.length = qs.length
  · rw [← hne]
    rw [← hne] at hm
    go_enter Try.func19, Try.ntmps19
    go_wp2
    go_loopw [5] (fun i wr => ∃ k : Nat, k ≤ ps.length ∧ i = .int .i64 k ∧ decide (ps.drop k = qs.drop k) = decide (ps = qs) ∧ Below w.heap.size w wr) (fun i _ => ps.length - (intOf i).toNat)
    case atStart => exact ⟨0, by omega, rfl, rfl, Below.refl _ _⟩
    case round =>
      obtain ⟨k, hk, rfl, hrec, hbw⟩ := hrel
      have Hrec := hideIt hrec
      have Hne := hideIt hne
      clear hrec hne
      by_cases hlt : k < ps.length
      · obtain ⟨b, off, rfl, hb, hc⟩ := hr.at1 hlt
        obtain ⟨b', off', rfl, hb', hc'⟩ := hs.at1 (k := k) (by rw [← Hne.out]; exact hlt)
        have hx := (hbw.cell (p := ⟨b, off + k, none⟩) hb).trans (hc k hlt)
        have hx' := (hbw.cell (p := ⟨b', off' + k, none⟩) hb').trans (hc' k (by rw [← Hne.out]; exact hlt))
        have Hst := hideIt (eq_step1 ps qs k hlt (by rw [← Hne.out]; exact hlt))
        clear hc hc' hr hs
        cases he : decide (a1 ps k = a1 qs k)
        · have he' : (a1 ps k != a1 qs k) = true := by simpa using he
          have He := hideIt he
          clear he
          go_wp2
          go_quiet (fail)
          go_wp2
          go_ret
          exact ⟨ret_bool (by rw [← Hrec.out, Hst.out, He.out, Bool.false_and]), below_drewN hbw _⟩
        · have he' : (a1 ps k != a1 qs k) = false := by simpa using he
          have He := hideIt he
          clear he
          go_wp2
          go_quiet (fail)
          go_wp2
          go_roundw
          case rel => exact ⟨k + 1, by omega, by go_num, by rw [← Hrec.out, Hst.out, He.out, Bool.true_and], below_drewN hbw _⟩
          case measure => simp [intOf]; omega
      · go_wp2
        go_ret
        obtain rfl : k = ps.length := by omega
        refine ⟨ret_bool ?_, hbw⟩
        rw [← Hrec.out]
        simp [Hne.out]
  · have hne' : ((ps.length : Int) == (qs.length : Int)) = false := by simp; omega
    go_enter Try.func19, Try.ntmps19
    go_wp2
    go_ret
    refine ⟨ret_bool ?_, Below.refl _ _⟩
    rw [eq_comm]
    simp
    rintro rfl
    exact hne rfl

set_option maxHeartbeats 400000 in
theorem heldIntS_any (A : Option Addr) (n cap : Nat) (k0 : Int) (w : World) (hn : n ≤ 1048576) (h0 : 0 ≤ k0) (h1 : k0 ≤ 100000000) (hr : Rd w A (fl1 (mark1 k0 n))) :
    Calls Try.prog 23 #[.slice A n cap, .int .i64 k0] w fun e w' => e = .returned (.int .i64 (k0 + n)) ∧ w = w' := by
  go_enter Try.func23, Try.ntmps23
  go_wp2
  go_loop [1, 5] (fun q i => ∃ k : Nat, k ≤ n ∧ i = .int .i64 k ∧ q = .int .i64 (k0 + k)) (fun _ i => n - (intOf i).toNat)
  case atStart => exact ⟨0, by omega, rfl, by simp⟩
  case round =>
    obtain ⟨k, hk, rfl, rfl⟩ := hrel
    by_cases hlt : k < n
    · obtain ⟨b, off, rfl, hb, hc⟩ := hr.at1 (k := k) (by rw [mark1_len]; exact hlt)
      have hx := hc k (by rw [mark1_len]; exact hlt)
      rw [mark1_at k0 n k hlt] at hx
      clear hc hr
      go_wp2
      go_round
      case rel => exact ⟨k + 1, by omega, by go_num, by congr 1; omega⟩
      case measure => simp [intOf]; omega
    · go_wp2
      go_ret
      obtain rfl : k = n := by omega
      exact ⟨rfl, rfl⟩

set_option maxHeartbeats 400000 in
theorem markIntS_any (A : Option Addr) (ps : List Int) (n base cap : Nat) (k0 : Int) (w : World) (hl : ps.length = n) (hn : n ≤ 1048576) (h0 : 0 ≤ k0) (h1 : k0 ≤ 100000000)
    (hown : w.ownsRow base 3 1 (.slice A n cap) n (fl1 ps)) :
    Calls Try.prog 22 #[.slice A n cap, .int .i64 k0] w fun e w' => e = .returned (.int .i64 (k0 + n)) ∧
      w'.ownsRow base 3 1 (.slice A n cap) n (fl1 (mark1 k0 n)) ∧ w.grownBy w' (Value.slice A n cap).ownBlock := by
  have Hl := hideIt hl
  clear hl
  go_enter Try.func22, Try.ntmps22
  go_wp2
  go_loopw [1, 5] (fun q i wr => ∃ k : Nat, k ≤ n ∧ i = .int .i64 k ∧ q = .int .i64 (k0 + k) ∧ wr.ownsRow base 3 1 (.slice A n cap) n (fl1 (mark1 k0 k ++ ps.drop k)) ∧ w.grownBy wr (Value.slice A n cap).ownBlock) (fun _ i _ => n - (intOf i).toNat)
  case atStart => exact ⟨0, by omega, rfl, by simp, by simpa [mark1] using hown, World.grownBy.refl _ _⟩
  case round =>
    obtain ⟨k, hk, rfl, rfl, hrow, hgr⟩ := hrel
    clear hown
    by_cases hlt : k < n
    · obtain ⟨g, rfl, hbg, hlg⟩ := own_some hrow (by omega)
      have hlk : k < (mark1 k0 k ++ ps.drop k).length := by rw [mark1, mark_len _ _ _ (by rw [Hl.out]; exact hk), Hl.out]; exact hlt
      have hx := row1_a hrow hlk
      have hfr := fun j => hrow.frozenAt j
      have hst := row1_store hrow hlk (k0 + k)
      rw [mark1, mark_set (fun (i : Nat) => k0 + i) ps k (by rw [Hl.out]; exact hlt)] at hst
      clear hrow hlk
      go_wp2
      go_roundw
      case rel => exact ⟨k + 1, by omega, by go_num, by congr 1; omega, hst, only_setCell (p := ⟨g, k, none⟩) hgr (.inl rfl) _⟩
      case measure => simp [intOf]; omega
    · go_wp2
      go_ret
      obtain rfl : k = n := by omega
      rw [List.drop_eq_nil_of_le (by rw [Hl.out]; omega), List.append_nil] at hrow
      exact ⟨rfl, hrow, hgr⟩
end Go.Proofs.Ytpiknklaikcilaa

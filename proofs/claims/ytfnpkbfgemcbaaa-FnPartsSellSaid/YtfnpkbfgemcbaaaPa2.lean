/- Walks: the exact laws' helpers for parts, 2. -/
import Derived.Test.YtfnpkbfgemcbaaaPa1
import Derived.StillTailTactics
namespace Go.Proofs.Ytfnpkbfgemcbaaa
open Go.RowKit

theorem eqPart_any (a b c d : Int) (w : World) (r : Bool) (hr : (decide (a = c) && decide (b = d)) = r) :
    Calls Try.prog 44 #[.agg #[.int .i64 a, .int .i64 b], .agg #[.int .i64 c, .int .i64 d]] w (Ret w (.bool r)) := by
  subst hr
  go_enter Try.func44, Try.ntmps44
  go_wp2
  all_goals go_ret
  all_goals refine ⟨ret_bool ?_, ((Below.refl _ _).alloc (Nat.le_refl _) _).alloc (by simp) _⟩
  all_goals simp_all

def EqSPost (w : World) (r : Bool) (e : Ending) (w' : World) : Prop := e = .returned (.bool r) ∧ Below w.heap.size w w'

set_option maxHeartbeats 400000 in
theorem eqPartS_any (A B : Option Addr) (ps qs : List (Int × Int)) (n m cap cap' : Nat) (w : World) (hl : ps.length = n) (hl' : qs.length = m) (hn : n ≤ 1048576) (hm : m ≤ 1048576) (hr : Rd w A (fl2 ps)) (hs : Rd w B (fl2 qs)) :
    Calls Try.prog 13 #[.slice A n cap, .slice B m cap'] w (Ret w (.bool (decide (ps = qs)))) := by
  subst hl
  subst hl'
  by_cases hne : ps.length = qs.length
  · rw [← hne]
    rw [← hne] at hm
    go_enter Try.func13, Try.ntmps13
    go_wp2
    go_loopw [5] (fun i wr => ∃ k : Nat, k ≤ ps.length ∧ i = .int .i64 k ∧ decide (ps.drop k = qs.drop k) = decide (ps = qs) ∧ Below w.heap.size w wr) (fun i _ => ps.length - (intOf i).toNat)
    case atStart => exact ⟨0, by omega, rfl, rfl, Below.refl _ _⟩
    case round =>
      obtain ⟨k, hk, rfl, hrec, hbw⟩ := hrel
      have Hrec := hideIt hrec
      have Hne := hideIt hne
      clear hrec hne
      by_cases hlt : k < ps.length
      · obtain ⟨b, off, rfl, hb, hc⟩ := hr.at2 hlt
        obtain ⟨b', off', rfl, hb', hc'⟩ := hs.at2 (k := k) (by rw [← Hne.out]; exact hlt)
        obtain ⟨hx, hy⟩ := hc k hlt
        obtain ⟨hx', hy'⟩ := hc' k (by rw [← Hne.out]; exact hlt)
        rw [← hbw.cell (p := ⟨b, off + k * 2, none⟩) hb] at hx
        rw [← hbw.cell (p := ⟨b, off + k * 2 + 1, none⟩) hb] at hy
        rw [← hbw.cell (p := ⟨b', off' + k * 2, none⟩) hb'] at hx'
        rw [← hbw.cell (p := ⟨b', off' + k * 2 + 1, none⟩) hb'] at hy'
        clear hc hc' hr hs
        go_wp2
        go_still_tail 8, (by kernel_rfl)
        have hst := hideIt (eq_step2 ps qs k hlt (by rw [← Hne.out]; exact hlt))
        cases he : (decide (a2 ps k = a2 qs k) && decide (b2 ps k = b2 qs k))
        · have He := hideIt he
          clear he
          go_wp2_with (go_at_call 44; refine (eqPart_any _ _ _ _ _ false He.out).mono ?_; rintro e w2 ⟨rfl, hb2⟩)
          go_ret
          refine ⟨ret_bool ?_, hbw.drew.trans (hb2.mono hbw.size)⟩
          rw [← Hrec.out, hst.out, He.out, Bool.false_and]
        · have He := hideIt he
          clear he
          go_wp2_with (go_at_call 44; refine (eqPart_any _ _ _ _ _ true He.out).mono ?_; rintro e w2 ⟨rfl, hb2⟩)
          go_roundw
          case rel => exact ⟨k + 1, by omega, by go_num, by rw [← Hrec.out, hst.out, He.out, Bool.true_and], hbw.drew.trans (hb2.mono hbw.size)⟩
          case measure => simp [intOf]; omega
      · go_wp2
        go_ret
        obtain rfl : k = ps.length := by omega
        refine ⟨ret_bool ?_, hbw⟩
        rw [← Hrec.out]
        simp [Hne.out]
  · have hne' : ((ps.length : Int) == (qs.length : Int)) = false := by simp; omega
    go_enter Try.func13, Try.ntmps13
    go_wp2
    go_ret
    refine ⟨ret_bool ?_, Below.refl _ _⟩
    rw [eq_comm]
    simp
    rintro rfl
    exact hne rfl

set_option maxHeartbeats 400000 in
theorem heldPartS_any (A : Option Addr) (n cap : Nat) (k0 : Int) (w : World) (hn : n ≤ 1048576) (h0 : 0 ≤ k0) (h1 : k0 ≤ 100000000) (hr : Rd w A (fl2 (mark2 k0 n))) :
    Calls Try.prog 15 #[.slice A n cap, .int .i64 k0] w fun e w' => e = .returned (.int .i64 (k0 + 2 * n)) ∧ w = w' := by
  go_enter Try.func15, Try.ntmps15
  go_wp2
  go_loop [1, 5] (fun q i => ∃ k : Nat, k ≤ n ∧ i = .int .i64 k ∧ q = .int .i64 (k0 + 2 * k)) (fun _ i => n - (intOf i).toNat)
  case atStart => exact ⟨0, by omega, rfl, by simp⟩
  case round =>
    obtain ⟨k, hk, rfl, rfl⟩ := hrel
    by_cases hlt : k < n
    · obtain ⟨b, off, rfl, hb, hc⟩ := hr.at2 (k := k) (by rw [mark2_len]; exact hlt)
      obtain ⟨hx, hy⟩ := hc k (by rw [mark2_len]; exact hlt)
      rw [(mark2_at k0 n k hlt).1] at hx
      rw [(mark2_at k0 n k hlt).2] at hy
      clear hc hr
      go_wp2
      go_round
      case rel => exact ⟨k + 1, by omega, by go_num, by congr 1; omega⟩
      case measure => simp [intOf]; omega
    · go_wp2
      go_ret
      obtain rfl : k = n := by omega
      exact ⟨rfl, rfl⟩

set_option maxHeartbeats 400000 in
theorem markPartS_any (A : Option Addr) (ps : List (Int × Int)) (n base cap : Nat) (k0 : Int) (w : World) (hl : ps.length = n) (hn : n ≤ 1048576) (h0 : 0 ≤ k0) (h1 : k0 ≤ 100000000)
    (hown : w.ownsRow base 38 2 (.slice A n cap) n (fl2 ps)) :
    Calls Try.prog 14 #[.slice A n cap, .int .i64 k0] w fun e w' => e = .returned (.int .i64 (k0 + 2 * n)) ∧
      w'.ownsRow base 38 2 (.slice A n cap) n (fl2 (mark2 k0 n)) ∧ w.grownBy w' (Value.slice A n cap).ownBlock := by
  have Hl := hideIt hl
  clear hl
  go_enter Try.func14, Try.ntmps14
  go_wp2
  go_loopw [1, 5] (fun q i wr => ∃ k : Nat, k ≤ n ∧ i = .int .i64 k ∧ q = .int .i64 (k0 + 2 * k) ∧ wr.ownsRow base 38 2 (.slice A n cap) n (fl2 (mark2 k0 k ++ ps.drop k)) ∧ w.grownBy wr (Value.slice A n cap).ownBlock) (fun _ i _ => n - (intOf i).toNat)
  case atStart => exact ⟨0, by omega, rfl, by simp, by simpa [mark2] using hown, World.grownBy.refl _ _⟩
  case round =>
    obtain ⟨k, hk, rfl, rfl, hrow, hgr⟩ := hrel
    clear hown
    by_cases hlt : k < n
    · obtain ⟨g, rfl, hbg, hlg⟩ := own_some hrow (by omega)
      have hlk : k < (mark2 k0 k ++ ps.drop k).length := by rw [mark2, mark_len _ _ _ (by rw [Hl.out]; exact hk), Hl.out]; exact hlt
      obtain ⟨hx, hy⟩ := row2_a hrow hlk
      have hfr := fun j => hrow.frozenAt j
      have hst := row2_store hrow hlk (k0 + 2 * k) (k0 + 2 * k + 1)
      rw [mark2, mark_set (fun (i : Nat) => ((k0 + 2 * i, k0 + 2 * i + 1) : Int × Int)) ps k (by rw [Hl.out]; exact hlt)] at hst
      clear hrow hlk
      go_wp2
      go_roundw
      case rel => exact ⟨k + 1, by omega, by go_num, by congr 1; omega, hst, only_setCell (p := ⟨g, k * 2 + 1, none⟩) (only_setCell (p := ⟨g, k * 2, none⟩) hgr (.inl rfl) _) (.inl rfl) _⟩
      case measure => simp [intOf]; omega
    · go_wp2
      go_ret
      obtain rfl : k = n := by omega
      rw [List.drop_eq_nil_of_le (by rw [Hl.out]; omega), List.append_nil] at hrow
      exact ⟨rfl, hrow, hgr⟩
end Go.Proofs.Ytfnpkbfgemcbaaa

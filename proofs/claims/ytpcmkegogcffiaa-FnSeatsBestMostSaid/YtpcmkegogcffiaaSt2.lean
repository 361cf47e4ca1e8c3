/- Walks: the number of bookings of a kind on a leg. -/
import Derived.Test.YtpcmkegogcffiaaSt1
namespace Go.Proofs.Ytpcmkegogcffiaa
open Go.RowKit

theorem onLeg_f {ls : List (Int × Int × Bool)} {k : Nat} {leg : Int} {ins : Bool} (h : cB ls k = !ins) : onLeg leg ins (ls.getD k (0, 0, false)) = false := by
  unfold cB at h
  unfold onLeg
  rw [h]; cases ins <;> rfl
theorem onLeg_t {ls : List (Int × Int × Bool)} {k : Nat} {leg f t : Nat} {ins : Bool} (h : cB ls k = ins) (hf : aB ls k = f) (ht : bB ls k = t) : onLeg leg ins (ls.getD k (0, 0, false)) = (decide (f ≤ leg) && decide (leg < t)) := by
  unfold aB at hf
  unfold bB at ht
  unfold cB at h
  unfold onLeg
  rw [h, hf, ht]
  simp
set_option maxHeartbeats 1000000 in
theorem takenOn_any (A : Option Addr) (ls : List (Int × Int × Bool)) (n cap : Nat) (leg : Nat) (ins : Bool) (w : World) (hl : ls.length = n) (hn : n ≤ 1048576) (hr : Rd w A (flB ls)) (hall : AllB 8 ls) (hleg : leg ≤ 7) :
    Calls Try.prog 51 #[.slice A n cap, .int .i64 leg, .bool ins] w (Ret w (.int .i64 (taken ls leg ins))) := by
  have Hl := hideIt hl
  clear hl
  have m1 := method_i
  have m2 := method_o
  have Hall : Hid (AllB 8 ls) := hall
  clear hall
  go_enter Try.func51, Try.ntmps51
  go_wp2
  go_loopw [7, 12] (fun c i wr => ∃ (k : Nat) (s : Int), k ≤ n ∧ i = .int .i64 k ∧ c = .int .i64 s ∧ 0 ≤ s ∧ s ≤ k ∧ s + taken (ls.drop k) leg ins = taken ls leg ins ∧ Below w.heap.size w wr) (fun _ i _ => n - (intOf i).toNat)
  case atStart => exact ⟨0, 0, by omega, rfl, rfl, by omega, by omega, by simp, Below.refl _ _⟩
  case round =>
    obtain ⟨k, s, hk, rfl, rfl, h0, h1, hrec, hbw⟩ := hrel
    have Hrec := hideIt hrec
    clear hrec
    by_cases hlt : k < n
    · have hlp : k < ls.length := by rw [Hl.out]; exact hlt
      obtain ⟨b, off, rfl, hb, hc⟩ := hr.atB hlp
      obtain ⟨hx, hy, hz⟩ := hc k hlp
      rw [← hbw.cell (p := ⟨b, off + k * 3, none⟩) hb] at hx
      rw [← hbw.cell (p := ⟨b, off + k * 3 + 1, none⟩) hb] at hy
      rw [← hbw.cell (p := ⟨b, off + k * 3 + 2, none⟩) hb] at hz
      obtain ⟨q0, q1, q2⟩ := Hall.out k hlp
      have hst := taken_step ls leg ins k hlp
      clear hc hr
      obtain ⟨f, hf⟩ := Int.eq_ofNat_of_zero_le q0
      obtain ⟨t, ht⟩ := Int.eq_ofNat_of_zero_le (show 0 ≤ bB ls k by omega)
      rw [hf] at hx
      rw [ht] at hy
      rw [hf, ht] at q1
      rw [ht] at q2
      cases hcb : cB ls k == ins
      · have hcb' : cB ls k = !ins := by cases ins <;> cases h : cB ls k <;> simp_all
        rw [onLeg_f hcb'] at hst
        have Hst := hideIt hst
        rw [hcb'] at hz
        clear hst hcb hcb' hf ht hlp q0
        cases ins
        all_goals
          go_wp2
          go_roundw
          case rel => exact ⟨k + 1, s, by omega, by go_num, rfl, by omega, by omega, by rw [← Hrec.out, Hst.out]; simp, hbw.alloc hbw.size _⟩
          case measure => simp [intOf]; omega
      · have hcb' : cB ls k = ins := by simpa using hcb
        rw [onLeg_t hcb' hf ht] at hst
        have Hst := hideIt hst
        rw [hcb'] at hz
        clear hst hcb hcb' hf ht hlp q0
        cases ins
        all_goals
          by_cases hon : f ≤ leg ∧ leg < t
          · have hd : (decide (f ≤ leg) && decide (leg < t)) = true := by simp; exact hon
            rw [hd] at Hst
            go_wp2_with fail
            refine (ticketOf_any f t _ _ (by omega) (by omega)).mono ?_
            rintro e w2 ⟨rfl, hb2⟩
            unfold ticket
            go_wp2_with fail
            first | refine (insideLegs_any _ _).mono ?_ | refine (outsideLegs_any _ _).mono ?_
            rintro e w3 ⟨rfl, hb3⟩
            go_wp2_with fail
            refine (has_any f t leg _ (by omega) (by omega) hleg).mono ?_
            rw [hd]
            rintro e w' ⟨rfl, rfl⟩
            have hbo := (hbw.alloc hbw.size _).trans (hb2.mono (Nat.le_trans hbw.size (by simp)))
            have hbo3 := hbo.trans (hb3.mono hbo.size)
            go_wp2
            go_roundw
            case rel => exact ⟨k + 1, s + 1, by omega, by go_num, rfl, by omega, by omega, by rw [← Hrec.out, Hst.out]; simp; omega, hbo3⟩
            case measure => simp [intOf]; omega
          · have hd : (decide (f ≤ leg) && decide (leg < t)) = false := by simp; omega
            rw [hd] at Hst
            go_wp2_with fail
            refine (ticketOf_any f t _ _ (by omega) (by omega)).mono ?_
            rintro e w2 ⟨rfl, hb2⟩
            unfold ticket
            go_wp2_with fail
            first | refine (insideLegs_any _ _).mono ?_ | refine (outsideLegs_any _ _).mono ?_
            rintro e w3 ⟨rfl, hb3⟩
            go_wp2_with fail
            refine (has_any f t leg _ (by omega) (by omega) hleg).mono ?_
            rw [hd]
            rintro e w' ⟨rfl, rfl⟩
            have hbo := (hbw.alloc hbw.size _).trans (hb2.mono (Nat.le_trans hbw.size (by simp)))
            have hbo3 := hbo.trans (hb3.mono hbo.size)
            go_wp2
            go_roundw
            case rel => exact ⟨k + 1, s, by omega, by go_num, rfl, by omega, by omega, by rw [← Hrec.out, Hst.out]; simp, hbo3⟩
            case measure => simp [intOf]; omega
    · go_wp2
      go_ret
      obtain rfl : k = n := by omega
      refine ⟨ret_int ?_, hbw⟩
      rw [← Hrec.out, List.drop_eq_nil_of_le (by rw [Hl.out]; omega)]
      simp [taken]

theorem onLeg_is {ls : List (Int × Int × Bool)} {k : Nat} {leg : Int} {ins : Bool} : onLeg leg ins (ls.getD k (0, 0, false)) = ((cB ls k == ins) && (decide (aB ls k ≤ leg) && decide (leg < bB ls k))) := rfl
set_option maxHeartbeats 1000000 in
theorem l4Taken_any (A : Option Addr) (ls : List (Int × Int × Bool)) (n cap : Nat) (leg : Int) (ins : Bool) (w : World) (hl : ls.length = n) (hn : n ≤ 1048576) (hr : Rd w A (flB ls)) :
    Calls Try.prog 53 #[.slice A n cap, .int .i64 leg, .bool ins] w fun e w' => e = .returned (.int .i64 (taken ls leg ins)) ∧ w = w' := by
  have Hl := hideIt hl
  clear hl
  go_enter Try.func53, Try.ntmps53
  go_wp2
  go_loop [7, 8] (fun c i => ∃ (k : Nat) (s : Int), k ≤ n ∧ i = .int .i64 k ∧ c = .int .i64 s ∧ 0 ≤ s ∧ s ≤ k ∧ s + taken (ls.drop k) leg ins = taken ls leg ins) (fun _ i => n - (intOf i).toNat)
  case atStart => exact ⟨0, 0, by omega, rfl, rfl, by omega, by omega, by simp⟩
  case round =>
    obtain ⟨k, s, hk, rfl, rfl, h0, h1, hrec⟩ := hrel
    have Hrec := hideIt hrec
    clear hrec
    by_cases hlt : k < n
    · have hlp : k < ls.length := by rw [Hl.out]; exact hlt
      obtain ⟨b, off, rfl, hb, hc⟩ := hr.atB hlp
      obtain ⟨hx, hy, hz⟩ := hc k hlp
      have hst := taken_step ls leg ins k hlp
      rw [onLeg_is] at hst
      clear hc hr hlp
      obtain ⟨x, hxx⟩ : ∃ x, aB ls k = x := ⟨_, rfl⟩
      obtain ⟨y, hyy⟩ : ∃ x, bB ls k = x := ⟨_, rfl⟩
      obtain ⟨z, hzz⟩ : ∃ x, cB ls k = x := ⟨_, rfl⟩
      rw [hxx] at hx hst
      rw [hyy] at hy hst
      rw [hzz] at hz hst
      clear hxx hyy hzz
      have Hst := hideIt hst
      clear hst
      by_cases hon : z = ins ∧ x ≤ leg ∧ leg < y
      · obtain ⟨rfl, h2, h3⟩ := hon
        go_wp2
        go_round
        case rel => exact ⟨k + 1, s + 1, by omega, by go_num, rfl, by omega, by omega, by rw [← Hrec.out, Hst.out]; simp [h2, h3]; omega⟩
        case measure => simp [intOf]; omega
      · have hr : s + taken (ls.drop (k + 1)) leg ins = taken ls leg ins := by
          rw [← Hrec.out, Hst.out, if_neg (by simpa using hon)]
          omega
        have Hr := hideIt hr
        clear hr Hst
        by_cases hzi : z = ins
        · subst hzi
          by_cases h2 : x ≤ leg
          · have h3 : ¬ leg < y := fun h => hon ⟨rfl, h2, h⟩
            clear hon
            go_wp2
            go_round
            case rel => exact ⟨k + 1, s, by omega, by go_num, rfl, by omega, by omega, Hr.out⟩
            case measure => simp [intOf]; omega
          · clear hon
            go_wp2
            go_round
            case rel => exact ⟨k + 1, s, by omega, by go_num, rfl, by omega, by omega, Hr.out⟩
            case measure => simp [intOf]; omega
        · clear hon
          obtain rfl : z = !ins := by cases z <;> cases ins <;> simp_all
          clear hzi
          cases ins
          all_goals
            go_wp2
            go_round
            case rel => exact ⟨k + 1, s, by omega, by go_num, rfl, by omega, by omega, Hr.out⟩
            case measure => simp [intOf]; omega
    · go_wp2
      go_ret
      obtain rfl : k = n := by omega
      refine ⟨ret_int ?_, rfl⟩
      rw [← Hrec.out, List.drop_eq_nil_of_le (by rw [Hl.out]; omega)]
      simp [taken]
end Go.Proofs.Ytpcmkegogcffiaa

/- Walks: PartsPlain of the reference. -/
import Derived.Test.YtfnpkbfgemcbaaaPa9
namespace Go.Proofs.Ytfnpkbfgemcbaaa
open Go.RowKit

theorem own_drewN {w : World} {base t size n : Nat} {v : Value} {xs : List Value} (h : w.ownsRow base t size v n xs) (k : Nat) : (w.drewN k).ownsRow base t size v n xs := h

set_option maxHeartbeats 1000000 in
theorem l5Parts_any (A : Option Addr) (os : List Int) (n cap : Nat) (w : World) (hl : os.length = n) (hn : n ≤ 1048576) (hr : Rd w A (fl1 os)) :
    Calls Try.prog 38 #[.slice A n cap] w (RetS w 38 2 (plain os).length (fl2 (plain os))) := by
  have Hl := hideIt hl
  clear hl
  obtain ⟨i0, hi, hz0, hz1, hz2⟩ := info_parts info_Part
  go_enter Try.func38, Try.ntmps38
  go_wp2
  go_loopw [3, 4] (fun o i wr => ∃ (k : Nat) (out : List (Int × Int)) (L : Nat), k ≤ n ∧ i = .int .i64 k ∧ out.length = L ∧ PlIn k out ∧ wr.ownsRow w.heap.size 38 2 o L (fl2 out) ∧ (os.drop k).foldl plainStep out = plain os ∧ Below w.heap.size w wr) (fun _ i _ => n - (intOf i).toNat)
  case atStart => exact ⟨0, [], 0, by omega, rfl, rfl, ⟨by simp, fun j hj => by simp at hj⟩, own_empty w 38 2, rfl, (Below.refl _ _).alloc (Nat.le_refl _) _⟩
  case round =>
    obtain ⟨k, out, L, hk, rfl, hL, hpl, hrow, hrec, hbw⟩ := hrel
    have HL := hideIt hL
    have Hrec := hideIt hrec
    clear hL hrec
    by_cases hlt : k < n
    · have hlp : k < os.length := by rw [Hl.out]; exact hlt
      have hLn : L ≤ 1048576 := by have := hpl.1; rw [HL.out] at this; omega
      have Hpl := hideIt (hpl.step (by omega) (a1 os k))
      obtain ⟨b, off, rfl, hb, hc⟩ := hr.at1 hlp
      have hx := (hbw.cell (p := ⟨b, off + k, none⟩) hb).trans (hc k hlp)
      have Hst := hideIt (plain_step os out k hlp)
      obtain ⟨A', c', rfl⟩ := own_form hrow
      clear hc hr
      cases L with
      | zero =>
        have Hnew := hideIt (plainStep_new out (a1 os k) (.inl HL.out))
        go_wp2
        go_quiet (fail)
        go_wp2_with (at_builtin; refine wpList_append_own _ rfl (.tmp 40) (.tmp 46) 24 rfl w.heap.size 38 i0 _ 2 16 Try.underlying24 hi hz0 hz1 hz2 rfl (by decide) _ _ _ rfl ((own_drewN hrow _).alloc _) ⟨wr.heap.size, 0, none⟩ 1 1 [.int .i64 (a1 os k), .int .i64 1] rfl rfl (cell_two_new _ _ _ _) (by simp [Value.oneCell']) (by unfold maxLen; omega) (by omega) (by have := hbw.size; simp; omega) ?_; intro v' w1 hown' hgrow hnn; clear hnn)
        go_roundw
        case rel => exact ⟨k + 1, _, _, by omega, by go_num, rfl, Hpl.out, by rw [Hnew.out, List.length_append, HL.out, fl2_snoc]; exact hown', by rw [← Hrec.out, Hst.out], ((below_drewN hbw _).alloc hbw.size _).grown hgrow (Nat.le_trans hbw.size (by simp)) (fun g hg => (hrow.lt g hg).1)⟩
        case measure => simp [intOf]; omega
      | succ L =>
        have hLo : L < out.length := by rw [HL.out]; omega
        obtain ⟨g, rfl, hbg, hlg⟩ := own_some hrow (by omega)
        have hrc := row2_a hrow hLo
        obtain ⟨hca, hcb⟩ := hrc
        have hfr := fun j => hrow.frozenAt j
        by_cases he : a2 out L = a1 os k
        · have he' : (a2 out L == a1 os k) = true := by simp [he]
          have Hsame := hideIt (plainStep_same out (a1 os k) L HL.out he)
          have hb2 := hpl.2 L hLo
          clear he
          go_wp2
          go_quiet (fail)
          have hst2 := row2_storeb hrow hLo (b2 out L + 1)
          go_wp2
          go_roundw
          case rel => exact ⟨k + 1, _, _, by omega, by go_num, rfl, Hpl.out, by rw [Hsame.out, List.length_set, HL.out]; exact hst2, by rw [← Hrec.out, Hst.out], below_drewN (hbw.setCell (p := ⟨g, L * 2 + 1, none⟩) hbg _) _⟩
          case measure => simp [intOf]; omega
        · have he' : (a2 out L == a1 os k) = false := by simp [he]
          have Hnew := hideIt (plainStep_new out (a1 os k) (.inr (by rw [HL.out]; exact he)))
          clear he
          go_wp2
          go_quiet (fail)
          go_wp2_with (at_builtin; refine wpList_append_own _ rfl (.tmp 40) (.tmp 46) 24 rfl w.heap.size 38 i0 _ 2 16 Try.underlying24 hi hz0 hz1 hz2 rfl (by decide) _ _ _ rfl ((own_drewN hrow _).alloc _) ⟨wr.heap.size, 0, none⟩ 1 1 [.int .i64 (a1 os k), .int .i64 1] rfl rfl (cell_two_new _ _ _ _) (by simp [Value.oneCell']) (by unfold maxLen; omega) (by omega) (by have := hbw.size; simp; omega) ?_; intro v' w1 hown' hgrow hnn; clear hnn)
          go_roundw
          case rel => exact ⟨k + 1, _, _, by omega, by go_num, rfl, Hpl.out, by rw [Hnew.out, List.length_append, HL.out, fl2_snoc]; exact hown', by rw [← Hrec.out, Hst.out], ((below_drewN hbw _).alloc hbw.size _).grown hgrow (Nat.le_trans hbw.size (by simp)) (fun g hg => (hrow.lt g hg).1)⟩
          case measure => simp [intOf]; omega
    · obtain rfl : k = n := by omega
      rw [List.drop_eq_nil_of_le (Nat.le_of_eq Hl.out), List.foldl_nil] at Hrec
      have he := Hrec.out
      obtain rfl : L = (plain os).length := by rw [← he]; exact HL.out.symm
      rw [he] at hrow
      clear he HL Hrec hpl
      obtain ⟨A', c', rfl⟩ := own_form hrow
      go_wp2
      go_ret
      exact ⟨_, _, rfl, hrow, hbw⟩

/-- what PartsPlain returns -/
def plainOk (ps : List (Int × Int)) : Bool := partsValid ps && partsValid (plain (owners ps))
def partsPlain (ps : List (Int × Int)) : List (Int × Int) := if plainOk ps = true then plain (owners ps) else []
theorem plain_le {ps : List (Int × Int)} (hv : partsValid ps = true) : (plain (owners ps)).length ≤ 1048576 := by
  have := (PlIn.plain (owners ps)).1
  have := owners_le hv
  omega
theorem partsPlain_le (ps : List (Int × Int)) : (partsPlain ps).length ≤ 1048576 := by
  unfold partsPlain plainOk
  split
  · rename_i h
    simp only [Bool.and_eq_true] at h
    exact plain_le h.1
  · simp

set_option maxHeartbeats 1000000 in
theorem specPartsPlain_any (A : Option Addr) (ps : List (Int × Int)) (n cap : Nat) (w : World) (hl : ps.length = n) (hn : n ≤ 1048576) (hr : Rd w A (fl2 ps)) :
    Calls Try.prog 18 #[.slice A n cap] w (RetSB w 38 2 (partsPlain ps).length (fl2 (partsPlain ps)) (plainOk ps)) := by
  have hb0 : Below w.heap.size w (w.alloc (.cells #[] 38)) := (Below.refl _ _).alloc (Nat.le_refl _) _
  have ho0 := own_empty w 38 2
  cases hv : partsValid ps
  · have Hv := hideIt hv
    clear hv
    have hp : plainOk ps = false := by rw [plainOk, Hv.out]; rfl
    have hq : partsPlain ps = [] := by rw [partsPlain, hp]; rfl
    rw [hp, hq]
    clear hp hq
    go_enter Try.func18, Try.ntmps18
    go_wp2_with fail
    refine (specPartsValid_any _ _ _ _ _ _ hl hn (hr.alloc _) Hv.out).mono ?_
    rintro e w' ⟨rfl, rfl⟩
    go_wp2
    go_ret2
    exact ⟨_, _, rfl, ho0, hb0⟩
  · have Hv := hideIt hv
    clear hv
    have hp : plainOk ps = partsValid (plain (owners ps)) := by rw [plainOk, Hv.out]; rfl
    have hole := owners_le Hv.out
    have hple := plain_le Hv.out
    cases hv2 : partsValid (plain (owners ps))
    all_goals
      rw [hv2] at hp
      have Hv2 := hideIt hv2
      have Hp := hideIt hp
      clear hv2 hp
      go_enter Try.func18, Try.ntmps18
      go_wp2_with fail
      refine (specPartsValid_any _ _ _ _ _ _ hl hn (hr.alloc _) Hv.out).mono ?_
      rintro e w' ⟨rfl, rfl⟩
      go_wp2_with fail
      refine (l5Owners_any _ _ _ _ _ hl (hr.alloc _) Hv.out).mono ?_
      rintro e w1 ⟨A1, c1, rfl, ho1, hb1⟩
      go_wp2_with fail
      refine (l5Parts_any _ _ _ _ _ rfl (by omega) (Rd.of_own ho1)).mono ?_
      rintro e w2 ⟨A2, c2, rfl, ho2, hb2⟩
      have hb := (hb0.trans (hb1.mono (by simp))).trans (hb2.mono (Nat.le_trans (by simp) hb1.size))
      have hs1 : w.heap.size ≤ w1.heap.size := Nat.le_trans (by simp) hb1.size
      go_wp2_with fail
      refine (specPartsValid_any _ _ _ _ _ _ rfl hple (Rd.of_own ho2) Hv2.out).mono ?_
      rintro e w' ⟨rfl, rfl⟩
      go_wp2
      go_ret2
      rw [partsPlain, Hp.out]
    · exact ⟨_, _, rfl, own_base (own_empty w2 38 2) hb.size, hb.alloc hb.size _⟩
    · exact ⟨_, _, rfl, own_base ho2 hs1, hb⟩
end Go.Proofs.Ytfnpkbfgemcbaaa

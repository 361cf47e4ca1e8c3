/- Walks: RosterMake of the reference (it ends: at most so many teams are taken as there are runs ahead). -/
import Derived.Test.YtckjagpjljbohaaRu6
import Derived.Test.YtckjagpjljbohaaPigeon
namespace Go.Proofs.Ytckjagpjljbohaa
open Go.RowKit

theorem taken_le {rs : List (Int × Int)} {rest : Int} {ro : List Int} {i : Nat} (_ : ro.length = i) (t : Nat) (h : ∀ u, u < t → canOf rs rest ro i (u : Int) i = false) : t ≤ i := by
  have h1 := nodup_le ((List.range t).map fun u => u) ((List.range i).map fun j => (a1 ro j).toNat) (by
    rw [List.map_id']; exact List.nodup_range) (fun x hx => by
    rw [List.map_id', List.mem_range] at hx
    have h2 := h x hx
    have h3 : ∃ j, j < i ∧ a1 ro j = (x : Int) := Classical.byContradiction fun hno => by
      rw [canOf_all (rs := rs) (rest := rest) (ro := ro) (i := i) (team := (x : Int)) i |>.2 (fun j hj he => absurd ⟨j, hj, he⟩ hno)] at h2
      cases h2
    obtain ⟨j, j1, j2⟩ := h3
    exact List.mem_map.2 ⟨j, List.mem_range.2 j1, by rw [j2]; rfl⟩)
  simpa using h1
/-- a list of the call's own, no longer than the runs, and a bool -/
def MadeR (w : World) (m : Nat) (r : Bool) (e : Ending) (w' : World) : Prop :=
  ∃ (ro : List Int) (b q c : Nat), e = .returned (.tuple #[.slice (some ⟨b, 0, none⟩) q c, .bool r]) ∧ ro.length = q ∧ q ≤ m ∧ w'.ownsRow w.heap.size 3 1 (.slice (some ⟨b, 0, none⟩) q c) q (fl1 ro) ∧ Below w.heap.size w w'

set_option maxRecDepth 100000 in
set_option maxHeartbeats 1000000 in
theorem specRosterMake_any (A : Option Addr) (rs : List (Int × Int)) (m cap : Nat) (rest : Int) (w : World) (hl : rs.length = m) (hm : m ≤ 1048576) (hr : Rd w A (fl2 rs)) :
    Calls Try.prog 20 #[.slice A m cap, .int .i64 rest] w (MadeR w m (runsRest rs rest)) := by
  have Hl := hideIt hl
  obtain ⟨i0, hi, hz0, hz1, hz2⟩ := info_parts info_intR
  cases h1 : runsRest rs rest
  · have H1 := hideIt h1
    clear h1 hl
    go_enter Try.func20, Try.ntmps20
    go_wp2_with fail
    refine (l3Ok_any _ _ _ _ _ _ _ Hl.out hm (hr.alloc _) H1.out).mono ?_
    rintro e w1 ⟨rfl, hb1⟩
    go_wp2
    go_ret2
    exact ⟨[], w.heap.size, 0, 0, rfl, rfl, by omega, own_below (own_empty w 3 1) hb1 (Nat.le_refl _), ((Below.refl _ _).alloc (Nat.le_refl _) _).trans (hb1.mono (by simp))⟩
  have h12 := (runsRest_in h1).1
  rw [hl] at h12
  have H1 := hideIt h1
  clear h1 hl
  go_enter Try.func20, Try.ntmps20
  go_wp2_with fail
  refine (l3Ok_any _ _ _ _ _ _ _ Hl.out hm (hr.alloc _) H1.out).mono ?_
  rintro e w1 ⟨rfl, hb1⟩
  have ho1 := own_below (own_empty w 3 1) hb1 (Nat.le_refl _)
  have bB1 := ((Below.refl w.heap.size w).alloc (Nat.le_refl _) (.cells #[] 3)).trans (hb1.mono (by simp))
  clear hb1
  go_wp2
  go_loopw [6, 7] (fun o i wr => ∃ (k : Nat) (ro : List Int) (b c : Nat), k ≤ m ∧ i = .int .i64 k ∧ o = .slice (some ⟨b, 0, none⟩) k c ∧ ro.length = k ∧ wr.ownsRow w.heap.size 3 1 (.slice (some ⟨b, 0, none⟩) k c) k (fl1 ro) ∧ Below w.heap.size w wr) (fun _ i _ => m - (intOf i).toNat)
  case atStart => exact ⟨0, [], w.heap.size, 0, by omega, rfl, rfl, rfl, ho1, bB1⟩
  case round =>
    obtain ⟨k, ro, b, c, hk, rfl, rfl, hlr, hrow, hbw⟩ := hrel
    have Hlr := hideIt hlr
    clear ho1 bB1 hlr
    by_cases hlt : k < m
    · obtain ⟨wo, hwo⟩ : ∃ wo, wo = wr := ⟨_, rfl⟩
      subst hwo
      go_wp2
      go_loopw [8] (fun t wr => ∃ (u : Nat), t = .int .i64 u ∧ u ≤ k ∧ (∀ x, x < u → canOf rs rest ro k (x : Int) k = false) ∧ Below wo.heap.size wo wr) (fun t _ => k + 1 - (intOf t).toNat)
      case atStart => exact ⟨0, rfl, by omega, fun x hx => by omega, Below.refl _ _⟩
      case round =>
        obtain ⟨u, rfl, huk, hno, hbv⟩ := hrel
        have Hno : Hid (∀ x, x < u → canOf rs rest ro k (x : Int) k = false) := hideIt hno
        clear hno
        have hbz := hbw.trans (hbv.mono hbw.size)
        have hrow2 := own_below hrow hbv (Nat.le_refl _)
        obtain ⟨c2, hc2⟩ : ∃ c, canOf rs rest ro k (u : Int) k = c := ⟨_, rfl⟩
        have Hc2 := hideIt hc2
        clear hc2
        go_wp2_with fail
        refine (l3Can_any _ _ _ _ _ _ _ _ _ _ _ _ _ Hl.out (hr.below hbz (Nat.le_refl _)) Hlr.out (Rd.of_own hrow2) H1.out hlt (Nat.le_refl _) Hc2.out).mono ?_
        rintro e w3 ⟨rfl, hb3⟩
        have hbv3 := hbv.trans (hb3.mono hbv.size)
        have hbz3 := hbz.trans (hb3.mono hbz.size)
        have hrow3 := own_below hrow2 hb3 (Nat.le_refl _)
        cases c2
        · have Hle := hideIt (taken_le (rs := rs) (rest := rest) Hlr.out (u + 1) (fun x hx => by
            by_cases e : x = u
            · subst e; exact Hc2.out
            · exact Hno.out x (by omega)))
          have Hno2 : Hid (∀ x, x < u + 1 → canOf rs rest ro k (x : Int) k = false) := hideIt fun x hx => by
            by_cases e : x = u
            · subst e; exact Hc2.out
            · exact Hno.out x (by omega)
          have hle := Hle.out
          clear Hle
          go_wp2
          go_roundw
          case rel => exact ⟨u + 1, by go_num, hle, Hno2.out, hbv3⟩
          case measure => simp [intOf]; omega
        · have hsz := hbz3.size
          clear hrow hbw hbv hbz hrow2 hbv3 hb3
          go_wp2_with (at_builtin; refine wpList_append_own _ rfl (.tmp 30) (.tmp 32) 24 rfl w.heap.size 3 i0 _ 1 8 Try.underlying24 hi hz0 hz1 hz2 rfl (by decide) _ _ _ rfl (hrow3.alloc _) ⟨w3.heap.size, 0, none⟩ 1 1 [.int .i64 (u : Int)] rfl rfl (cell_one_new _ _ _) (by simp [Value.oneCell']) (by unfold maxLen; omega) (by omega) (by simp; omega) ?_; intro v' wn hown' hgrow hnn; clear hnn)
          obtain ⟨A', c', rfl⟩ := own_form hown'
          obtain ⟨b', rfl, _, _⟩ := own_some hown' (by omega)
          have Hfl := hideIt (fl1_snoc ro (u : Int))
          have Hln := hideIt (show (ro ++ [(u : Int)]).length = k + 1 by rw [List.length_append, Hlr.out]; rfl)
          have bN : Below w.heap.size w wn := (hbz3.alloc hsz _).grown hgrow (by simp; exact Nat.le_succ_of_le hsz) (fun g hg => (hrow3.lt g hg).1)
          clear hgrow
          go_wp2
          go_roundw
          case rel => exact ⟨k + 1, ro ++ [(u : Int)], b', c', by omega, by go_num, rfl, Hln.out, by rw [Hfl.out]; exact hown', bN⟩
          case measure => simp [intOf]; omega
    · obtain rfl : k = m := by omega
      go_wp2
      go_ret2
      exact ⟨ro, b, k, c, rfl, Hlr.out, Nat.le_refl _, hrow, hbw⟩
end Go.Proofs.Ytckjagpjljbohaa

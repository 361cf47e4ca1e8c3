/- Walks: RosterMinutes of the program. -/
import Derived.Test.YtpcmkegogcffiaaRu6
import Derived.BigRegion
namespace Go.Proofs.Ytpcmkegogcffiaa
open Go.RowKit

theorem minTo_in {rs : List (Int × Int)} {rest : Int} {ro : List Int} (h : rosterValid rs rest ro = true) {k t : Nat} (hk : k ≤ ro.length) (ht : t < 12) : 0 ≤ a1 (minTo rs ro k) t ∧ a1 (minTo rs ro k) t ≤ 10000 * k := by
  obtain ⟨h1, h2, h3⟩ := rosterValid_in h
  rw [minTo_at rs ro t ht k (fun j hj => h3 j (by omega))]
  exact minOf_ge h1 ro t k (by omega)

set_option maxRecDepth 100000 in
set_option maxHeartbeats 1000000 in
theorem implRosterMinutes_any (A : Option Addr) (rs : List (Int × Int)) (m cap : Nat) (rest : Int) (B : Option Addr) (ro : List Int) (q capB : Nat) (w : World) (hl : rs.length = m) (hm : m ≤ 1048576) (hr : Rd w A (fl2 rs)) (hlb : ro.length = q) (hq : q ≤ 1048576) (hs : Rd w B (fl1 ro)) (hv : rosterValid rs rest ro = true) :
    Calls Try.prog 40 #[.slice A m cap, .int .i64 rest, .slice B q capB] w (RetSB w 3 1 12 (fl1 (minutes rs ro)) true) := by
  have Hl := hideIt hl
  have Hlb := hideIt hlb
  have Hv := hideIt hv
  obtain ⟨hrr, hqm, hin⟩ := rosterValid_in hv
  obtain ⟨h12, ⟨r0, r1⟩, hruns⟩ := runsRest_in hrr
  obtain rfl : q = m := by omega
  rw [hl] at h12
  have Hin : Hid (∀ j, j < ro.length → 0 ≤ a1 ro j ∧ a1 ro j ≤ 11) := hideIt hin
  have Hruns : Hid (∀ k, k < rs.length → 0 ≤ a2 rs k ∧ a2 rs k < b2 rs k ∧ b2 rs k ≤ 10000) := hideIt hruns
  obtain ⟨i0, hi, hz0, hz1, hz2⟩ := info_parts info_intR
  clear hv hl hlb hqm hin hruns hrr
  go_enter Try.func40, Try.ntmps40
  go_wp2_with fail
  refine (implRosterValid_any _ _ _ _ _ _ _ _ _ _ _ Hl.out hm hr Hlb.out hq hs Hv.out).mono ?_
  rintro e w1 ⟨rfl, hb1⟩
  go_wp2_with (refine wpList_make_full _ rfl _ _ _ rfl w1.heap.size 3 i0 _ 1 Try.underlying26 hi hz0 hz1 .i64 .i64 _ _ 12 rfl rfl rfl rfl (by rw [hz2]; omega) (by unfold maxLen; omega) (Nat.le_refl _) ?_; intro w2 hown hgrow)
  have B2 : Below w1.heap.size w1 w2 := (Below.refl _ _).grown hgrow (Nat.le_refl _) (by simp)
  clear hgrow
  have hb1' := hb1.size
  go_loopw [20] (fun i wr => ∃ k : Nat, k ≤ q ∧ i = .int .i64 k ∧ wr.ownsRow w1.heap.size 3 1 (.slice (some ⟨w1.heap.size, 0, none⟩) 12 12) 12 (fl1 (minTo rs ro k)) ∧ Below w1.heap.size w1 wr) (fun i _ => q - (intOf i).toNat)
  case atStart => exact ⟨0, by omega, rfl, (by rw [show minTo rs ro 0 = List.replicate 12 0 from rfl, ← made1]; exact hown), B2⟩
  case round =>
    obtain ⟨k, hk, rfl, hrow, hB⟩ := hrel
    clear hown B2
    have hbw := hb1.trans (hB.mono hb1.size)
    by_cases hlt : k < q
    · have hkl : k < rs.length := by rw [Hl.out]; exact hlt
      have hkq : k < ro.length := by rw [Hlb.out]; exact hlt
      obtain ⟨b, off, rfl, hb, hc⟩ := (hr.below hbw (Nat.le_refl _)).at2 hkl
      obtain ⟨bo, offo, rfl, hbo, hco⟩ := (hs.below hbw (Nat.le_refl _)).at1 hkq
      obtain ⟨hx, hy⟩ := hc k hkl
      have ht := hco k hkq
      obtain ⟨g1, g2, g3⟩ := Hruns.out k hkl
      obtain ⟨t0, t1⟩ := Hin.out k hkq
      obtain ⟨t, ht'⟩ := Int.eq_ofNat_of_zero_le t0
      have htl : t < 12 := by omega
      obtain ⟨m0, m1⟩ := minTo_in Hv.out (k := k) (t := t) (by omega) htl
      have hcell := row1_a hrow (k := t) (by rw [minTo_len]; exact htl)
      have hfr := fun j => hrow.frozenAt j
      have hst := row1_store hrow (k := t) (by rw [minTo_len]; exact htl) (a1 (minTo rs ro k) t + (b2 rs k - a2 rs k))
      have hnx : (minTo rs ro k).set t (a1 (minTo rs ro k) t + (b2 rs k - a2 rs k)) = minTo rs ro (k + 1) := by rw [minTo, minStep, ht', Int.toNat_natCast]
      rw [hnx] at hst
      rw [ht'] at ht
      obtain ⟨s, hs'⟩ : ∃ s, a2 rs k = s := ⟨_, rfl⟩
      obtain ⟨e, he⟩ : ∃ e, b2 rs k = e := ⟨_, rfl⟩
      obtain ⟨u, hu⟩ : ∃ u, a1 (minTo rs ro k) t = u := ⟨_, rfl⟩
      rw [hs'] at hx g1 g2 hst
      rw [he] at hy g2 g3 hst
      rw [hu] at hcell m0 m1 hst
      have ht3 : (t : Int) < 12 := by omega
      have hkm : (k : Int) < (q : Int) := by omega
      have hsub : IntKind.i64.wrap (e - s) = e - s := IntWalk.i64_in _ (by omega)
      have hadd : IntKind.i64.wrap (u + (e - s)) = u + (e - s) := IntWalk.i64_in _ (by omega)
      clear hc hco hkl hkq ht' hnx hs' he hu t0 t1
      go_wp2
      go_region
      go_wp2
      go_roundw
      case rel => exact ⟨k + 1, by omega, by go_num, hst, (hB.setCell (p := ⟨w1.heap.size, t, none⟩) (Nat.le_refl _) _).drew⟩
      case measure => simp [intOf]; omega
    · obtain rfl : k = q := by omega
      have Hm := hideIt (show minTo rs ro k = minutes rs ro by rw [minutes, Hlb.out])
      rw [Hm.out] at hrow
      go_wp2
      go_ret2
      exact ⟨_, _, rfl, own_base hrow hb1', hbw⟩
end Go.Proofs.Ytpcmkegogcffiaa

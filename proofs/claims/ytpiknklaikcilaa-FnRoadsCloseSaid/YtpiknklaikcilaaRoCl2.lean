/- Walks: RoadsClose of the reference. -/
import Derived.Test.YtpiknklaikcilaaRoCl
namespace Go.Proofs.Ytpiknklaikcilaa
open Go.RowKit

set_option maxRecDepth 100000 in
set_option maxHeartbeats 1000000 in
theorem specRoadsClose_any (n : Int) (A : Option Addr) (rs : List (Int × Int × Int)) (m cap : Nat) (a b : Int) (w : World) (hl : rs.length = m) (hm : m ≤ 1048576) (hr : Rd w A (fl3 rs)) (hc : m ≤ cap) :
    Calls Try.prog 48 #[.int .i64 n, .slice A m cap, .int .i64 a, .int .i64 b] w (RetSB w 50 3 (roadsClose n rs a b).length (fl3 (roadsClose n rs a b)) (decide (0 ≤ direct n rs a b))) := by
  obtain ⟨i0, hi, hz0, hz1, hz2⟩ := info_parts info_Road
  have Hl := hideIt hl
  clear hl
  obtain ⟨f, hf⟩ : ∃ f, direct n rs a b = f := ⟨_, rfl⟩
  by_cases hd : direct n rs a b < 0
  · rw [roadsClose_f hd, decide_eq_false (by omega)]
    rw [hf] at hd
    have Hf := hideIt hf
    clear hf
    go_enter Try.func48, Try.ntmps48
    go_wp2_with fail
    refine (specRoadsDirect_any _ _ _ _ _ _ _ _ Hl.out hm hr).mono ?_
    rw [Hf.out]
    rintro e w1 ⟨rfl, hb1⟩
    go_wp2
    go_ret2
    exact ⟨_, _, rfl, own_base (own_empty w1 50 3) hb1.size, hb1.alloc hb1.size _⟩
  have hd0 : 0 ≤ direct n rs a b := by omega
  obtain ⟨mm, k, rfl, hrv, hk, hkl, hhit, hdx, hab, hex⟩ := direct_at hd0
  clear hdx hex
  have l16 := hrv.l16
  rw [roadsClose_t hd0 hk, decide_eq_true hd0, without_len k hkl]
  rw [hf] at hd0
  have Hk := hideIt hk
  have Hf := hideIt hf
  rw [Hl.out] at l16 hkl ⊢
  obtain ⟨b, off, rfl⟩ := hr.at0 (by rw [Hl.out]; omega)
  clear hf hd hk hrv hhit
  have ht := hr.take3 k
  have Hlt := hideIt (show (rs.take k).length = k by rw [List.length_take, Hl.out]; omega)
  have Hld := hideIt (show (rs.drop (k + 1)).length = m - (k + 1) by rw [List.length_drop, Hl.out])
  have hwr : IntKind.i64.wrap ((k : Int) + 1) = (k : Int) + 1 := IntWalk.i64_in _ (by omega)
  have g1 : (k : Int) ≤ (cap : Int) := by omega
  have g2 : (0 : Int) ≤ (k : Int) + 1 := by omega
  have g3 : (k : Int) + 1 ≤ (m : Int) := by omega
  have g4 : ((k : Int) + 1).toNat = k + 1 := by omega
  have g5 : ¬ cap = 0 := by omega
  go_enter Try.func48, Try.ntmps48
  go_wp2_with fail
  refine (specRoadsDirect_any _ _ _ _ _ _ _ _ Hl.out hm hr).mono ?_
  rw [Hf.out]
  rintro e w1 ⟨rfl, hb1⟩
  have hr1 := hr.below hb1 (Nat.le_refl _)
  have ht1 := ht.below hb1 (Nat.le_refl _)
  go_wp2_with fail
  refine (l1Find_any _ _ _ _ _ _ _ Hl.out hm hr1).mono ?_
  rw [Hk.out]
  rintro e w1 ⟨rfl, rfl⟩
  by_cases hck : cap = k + 1
  · obtain rfl : m = k + 1 := by omega
    subst hck
    have g6 : (k : Int) ≤ (k : Int) + 1 := by omega
    have Hnil := hideIt (show lessR rs k = rs.take k ++ [] by rw [lessR, List.drop_eq_nil_of_le (by rw [Hl.out]; omega)])
    have hw := hideIt (show k + 1 - 1 = k by omega)
    clear hc
    go_wp2_with fail
    go_region_held3 (fun w' => Below w1.heap.size w1 w')
      (first | assumption | exact (Below.refl _ _).drew | exact B2 | exact B3 | (refine Below.alloc (by assumption) (Below.size (by assumption)) _))
      (first
        | (refine step_append_all rfl (.tmp 22) (.tmp 25) 27 (by rfl) w1.heap.size 50 i0 _ 3 24 Try.underlying27 hi hz0 hz1 hz2 rfl (by omega) _ 0 [] (by rfl) (own_emptyH w1.drew 50 3 _ rfl) ⟨b, off, none⟩ k (k + 1) (fl3 (rs.take k)) (by rfl) (by rw [fl3_len, Hlt.out]) (Rd.news (ht1.below (by assumption) (Nat.le_refl _))) (fl3_one _) (by unfold maxLen; omega) (by omega) (by simp) k (Nat.zero_add k) ?_
           intro A2 c2 w2 ho2 hg2
           rw [List.nil_append] at ho2
           have B2 := below_own (by assumption) (own_emptyH w1.drew 50 3 _ rfl) hg2 (Nat.le_refl _) (by simp))
        | (refine step_append_all rfl (.tmp 26) (.tmp 30) 27 (by rfl) w1.heap.size 50 i0 _ 3 24 Try.underlying27 hi hz0 hz1 hz2 rfl (by omega) _ k (fl3 (rs.take k)) (by rfl) (ho2) ⟨b, off, none⟩ 0 0 [] (by rfl) rfl (fun j u hu => by simp at hu) (by simp) (by unfold maxLen; omega) (by omega) (B2.size) k (Nat.add_zero k) ?_
           intro A3 c3 w3 ho3 hg3
           have B3 := below_own B2 ho2 hg3 (Nat.le_refl _) B2.size))
    all_goals
      go_wp2
      go_ret2
      rw [Hnil.out, List.append_nil, hw.out]
      rw [List.append_nil] at ho3
      exact ⟨_, _, rfl, own_base ho3 hb1.size, below_from hb1 B3⟩
  · have hd1 := hr1.drop3 (k + 1) (by rw [Hl.out]; omega)
    have E1 := hideIt (show lessR rs k = rs.take k ++ rs.drop (k + 1) from rfl)
    have Hsum := hideIt (show m - 1 = k + (m - (k + 1)) by omega)
    go_wp2_with fail
    go_region_held3 (fun w' => Below w1.heap.size w1 w')
      (first | assumption | exact (Below.refl _ _).drew | exact B2 | exact B3 | (refine Below.alloc (by assumption) (Below.size (by assumption)) _))
      (first
        | (refine step_append_all rfl (.tmp 22) (.tmp 25) 27 (by rfl) w1.heap.size 50 i0 _ 3 24 Try.underlying27 hi hz0 hz1 hz2 rfl (by omega) _ 0 [] (by rfl) (own_emptyH w1.drew 50 3 _ rfl) ⟨b, off, none⟩ k cap (fl3 (rs.take k)) (by rfl) (by rw [fl3_len, Hlt.out]) (Rd.news (ht1.below (by assumption) (Nat.le_refl _))) (fl3_one _) (by unfold maxLen; omega) (by omega) (by simp) k (Nat.zero_add k) ?_
           intro A2 c2 w2 ho2 hg2
           rw [List.nil_append] at ho2
           have B2 := below_own (by assumption) (own_emptyH w1.drew 50 3 _ rfl) hg2 (Nat.le_refl _) (by simp))
        | (refine step_append_all rfl (.tmp 26) (.tmp 30) 27 (by rfl) w1.heap.size 50 i0 _ 3 24 Try.underlying27 hi hz0 hz1 hz2 rfl (by omega) _ k (fl3 (rs.take k)) (by rfl) (ho2) ⟨b, off + (k + 1) * 3, none⟩ (m - (k + 1)) (cap - (k + 1)) (fl3 (rs.drop (k + 1))) (by rfl) (by rw [fl3_len, Hld.out]) (Rd.news (hd1.below B2 (Nat.le_refl _))) (fl3_one _) (by unfold maxLen; omega) (by omega) (B2.size) (k + (m - (k + 1))) (rfl) ?_
           intro A3 c3 w3 ho3 hg3
           have B3 := below_own B2 ho2 hg3 (Nat.le_refl _) B2.size))
    all_goals
      go_wp2
      go_ret2
      have ho4 : w3.ownsRow w1.heap.size 50 3 (.slice A3 (k + (m - (k + 1))) c3) (k + (m - (k + 1))) (fl3 (lessR rs k)) := by rw [E1.out, fl3, List.flatMap_append]; exact ho3
      rw [Hsum.out]
      exact ⟨_, _, rfl, own_base ho4 hb1.size, below_from hb1 B3⟩
end Go.Proofs.Ytpiknklaikcilaa

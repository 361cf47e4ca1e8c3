/- The walk of FnFar, and its plain law. -/
import Derived.Test.YtpiknklaikcilaaDrRo2
import Derived.Test.YtpiknklaikcilaaRo7
namespace Go.Proofs.Ytpiknklaikcilaa.fnFar
open Go.RowKit

theorem roadsFar_ge {n : Nat} {rs : List (Int × Int × Int)} {a b : Int} (h : 0 ≤ roadsFar n rs a b) : ∃ s t : Nat, a = s ∧ b = t ∧ s < n ∧ t < n ∧ RV n rs ∧ roadsValid n rs = true := by
  cases hv : roadsValid n rs
  · rw [roadsFar_v hv] at h; omega
  cases h1 : (decide (0 ≤ a) && decide (a < (n : Int)))
  · rw [roadsFar_a h1] at h; omega
  cases h2 : (decide (0 ≤ b) && decide (b < (n : Int)))
  · rw [roadsFar_b h2] at h; omega
  obtain ⟨s, rfl, hs⟩ := in_cases h1
  obtain ⟨t, rfl, ht⟩ := in_cases h2
  obtain ⟨m, e, hrv⟩ := roadsValid_t hv
  obtain rfl : n = m := by omega
  exact ⟨s, t, rfl, rfl, hs, ht, hrv, rfl⟩
theorem far_law {n : Nat} {rs : List (Int × Int × Int)} (h : RV n rs) {s t q : Nat} (hs : s < n) (ht : t < n) (hq : q < n) (hd : 0 ≤ dist n rs s t) :
    dist n rs t s = dist n rs s t ∧ (dist n rs s t = 0 ↔ s = t) ∧ (0 ≤ dist n rs s q ↔ 0 ≤ dist n rs q t) ∧ (0 ≤ dist n rs s q → dist n rs s t ≤ dist n rs s q + dist n rs q t) ∧ dist n rs s q ≤ 800 ∧ dist n rs q t ≤ 800 ∧ dist n rs s t ≤ 800 ∧ -1 ≤ dist n rs s q ∧ -1 ≤ dist n rs q t := by
  have hD := h.dist_is hs ht hd
  have hc := (h.dist_ge_iff hs ht).1 hd
  have hiff : 0 ≤ dist n rs s q ↔ 0 ≤ dist n rs q t := by
    rw [h.dist_ge_iff hs hq, h.dist_ge_iff hq ht]
    exact ⟨fun g => (g.symm (eN_comm rs)).trans hc, fun g => hc.trans (g.symm (eN_comm rs))⟩
  have bd : ∀ {a b : Nat}, a < n → b < n → dist n rs a b ≤ 800 ∧ -1 ≤ dist n rs a b := fun ha hb => by
    rcases h.dist_at ha hb with ⟨g1, _⟩ | ⟨g0, g1, _⟩ <;> omega
  refine ⟨h.dist_comm ht hs, ⟨fun e => ?_, fun e => ?_⟩, hiff, fun g => ?_, (bd hs hq).1, (bd hq ht).1, (bd hs ht).1, (bd hs hq).2, (bd hq ht).2⟩
  · rw [e] at hD
    obtain ⟨⟨k, wk⟩, _⟩ := hD
    exact (wk.zero (Int.le_refl _)).2.1
  · subst e
    exact hD.unique (IsD.self hs)
  · exact (h.dist_is hs hq g).tri (h.dist_is hq ht (hiff.1 g)) hD

set_option maxRecDepth 100000 in
set_option maxHeartbeats 4000000 in
theorem walk (A : Option Addr) (xs : List Int) (n c : Nat) (A' : Option Addr) (xs' : List Int) (n' c' : Nat) (w : World) (hl : xs.length = n) (hm : n ≤ maxLen) (hc : n ≤ c) (hx : Bytes xs) (hr : Rd w A (flU xs))
    (hl' : xs'.length = n') (hm' : n' ≤ maxLen) (hc' : n' ≤ c') (hx' : Bytes xs') (hr' : Rd w A' (flU xs')) :
    Calls Try.prog 9 #[.slice A n c, .slice A' n' c'] w (Ret w (.bool true)) := by
  unfold maxLen at hm hm'
  by_cases hn : n ≤ 1048576
  rotate_left
  · go_enter Try.func9, Try.ntmps9
    go_wp2_with fail
    go_ret
    exact ⟨rfl, Below.refl _ _⟩
  by_cases hn' : n' ≤ 1048576
  rotate_left
  · go_enter Try.func9, Try.ntmps9
    go_wp2_with fail
    go_ret
    exact ⟨rfl, Below.refl _ _⟩
  go_enter Try.func9, Try.ntmps9
  go_wp2_with fail
  refine (DrawRoadsFar_any _ xs _ _ _ hl hn hc hx hr).mono ?_
  clear hl hl' hr hr' hx hx'
  rintro e w1 ⟨k, rs, b, m, d, x, y, rfl, hk2, hk6, hl1, hm1, hin, ⟨x0, x1⟩, ⟨y0, y1⟩, ho1, hb1⟩
  have Hl1 := hideIt hl1
  clear hl1 hin
  have okx : IntOk x := by unfold IntOk; omega
  have oky : IntOk y := by unfold IntOk; omega
  obtain ⟨f, hf⟩ : ∃ f, roadsFar k rs x y = f := ⟨_, rfl⟩
  have Hf := hideIt hf
  clear hf
  go_wp2_with fail
  refine (implRoadsFar_any _ _ _ _ _ _ _ _ Hl1.out (by omega) (Rd.of_own ho1) okx oky).mono ?_
  rw [Hf.out]
  rintro e w2 ⟨rfl, hb2⟩
  have b2 := hb1.trans (hb2.mono hb1.size)
  have ho2 := own_below ho1 hb2 (Nat.le_refl _)
  clear ho1 hb2 hb1
  go_wp2_with fail
  refine (specRoadsFar_any _ _ _ _ _ _ _ _ Hl1.out (by omega) (Rd.of_own ho2) okx oky).mono ?_
  rw [Hf.out]
  rintro e w3 ⟨rfl, hb3⟩
  have b3 := b2.trans (hb3.mono b2.size)
  have ho3 := own_below ho2 hb3 (Nat.le_refl _)
  clear ho2 hb3 b2
  by_cases hneg : f < 0
  · go_wp2
    go_ret
    exact ⟨rfl, b3⟩
  have hf0 : 0 ≤ f := by omega
  clear hneg
  obtain ⟨s, t, rfl, rfl, hs, ht, hrv, hvv⟩ := roadsFar_ge (show 0 ≤ roadsFar k rs x y by rw [Hf.out]; exact hf0)
  obtain ⟨q, hq⟩ : ∃ q, n' % k = q := ⟨_, rfl⟩
  have hqk : q < k := by rw [← hq]; exact Nat.mod_lt _ (by omega)
  have hrem : (n' : Int).tmod (k : Int) = (q : Int) := by rw [← hq]; exact (Int.ofNat_tmod n' k).symm
  have okq : IntOk (q : Int) := by unfold IntOk; omega
  have hlaw := far_law hrv hs ht hqk (by rw [← roadsFar_in hvv hs ht, Hf.out]; exact hf0)
  rw [← roadsFar_in hvv ht hs, ← roadsFar_in hvv hs ht, ← roadsFar_in hvv hs hqk, ← roadsFar_in hvv hqk ht, Hf.out] at hlaw
  obtain ⟨X, hX⟩ : ∃ f, roadsFar k rs s q = f := ⟨_, rfl⟩
  obtain ⟨Y, hY⟩ : ∃ f, roadsFar k rs q t = f := ⟨_, rfl⟩
  obtain ⟨Z, hZ⟩ : ∃ f, roadsFar k rs t s = f := ⟨_, rfl⟩
  rw [hX, hY, hZ] at hlaw
  have HX := hideIt hX
  have HY := hideIt hY
  have HZ := hideIt hZ
  obtain ⟨rfl, hzero, hiff, htri, hX8, hY8, hf8, hXm, hYm⟩ := hlaw
  have hk1 : (1 : Int) ≤ (k : Int) := by omega
  have hk0 : ((k : Int) == 0) = false := by simp; omega
  have hkn : ¬ (k : Int) = 0 := by omega
  have hsum := IntWalk.i64_in (X + Y) (by omega)
  clear hX hY hZ hq hvv hrv
  go_wp2_with fail
  refine (implRoadsFar_any _ _ _ _ _ _ _ _ Hl1.out (by omega) (Rd.of_own ho3) okx okq).mono ?_
  rw [HX.out]
  rintro e w4 ⟨rfl, hb4⟩
  have b4 := b3.trans (hb4.mono b3.size)
  have ho4 := own_below ho3 hb4 (Nat.le_refl _)
  clear ho3 hb4 b3
  go_wp2_with fail
  refine (implRoadsFar_any _ _ _ _ _ _ _ _ Hl1.out (by omega) (Rd.of_own ho4) okq oky).mono ?_
  rw [HY.out]
  rintro e w5 ⟨rfl, hb5⟩
  have b5 := b4.trans (hb5.mono b4.size)
  have ho5 := own_below ho4 hb5 (Nat.le_refl _)
  clear ho4 hb5 b4
  go_wp2_with fail
  refine (implRoadsFar_any _ _ _ _ _ _ _ _ Hl1.out (by omega) (Rd.of_own ho5) oky okx).mono ?_
  rw [HZ.out]
  rintro e w6 ⟨rfl, hb6⟩
  have b6 := b5.trans (hb6.mono b5.size)
  clear ho5 hb6 b5
  by_cases hst : s = t
  · subst hst
    obtain rfl := hzero.2 rfl
    by_cases hX0 : 0 ≤ X
    · have hY0 := hiff.1 hX0
      have htr := htri hX0
      clear hzero hiff htri
      go_wp2
      go_ret
      exact ⟨rfl, b6⟩
    · have hY0 : Y < 0 := by have := mt hiff.2 hX0; omega
      have hX1 : X < 0 := by omega
      clear hzero hiff htri hX0
      go_wp2
      go_ret
      exact ⟨rfl, b6⟩
  · have hf1 : (Z == 0) = false := by simp; exact fun e => hst (hzero.1 e)
    have hst1 : ((s : Int) == (t : Int)) = false := by simp; omega
    by_cases hX0 : 0 ≤ X
    · have hY0 := hiff.1 hX0
      have htr := htri hX0
      clear hzero hiff htri hst
      go_wp2
      go_ret
      exact ⟨rfl, b6⟩
    · have hY0 : Y < 0 := by have := mt hiff.2 hX0; omega
      have hX1 : X < 0 := by omega
      clear hzero hiff htri hX0 hst
      go_wp2
      go_ret
      exact ⟨rfl, b6⟩
end Go.Proofs.Ytpiknklaikcilaa.fnFar

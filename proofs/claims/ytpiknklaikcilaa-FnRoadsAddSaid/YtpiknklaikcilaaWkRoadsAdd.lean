/- The walk of FnRoadsAdd. -/
import Derived.Test.YtpiknklaikcilaaDrRo3
import Derived.Test.YtpiknklaikcilaaRo7
import Derived.Test.YtpiknklaikcilaaRoLen
import Derived.Test.YtpiknklaikcilaaSameRoad
namespace Go.Proofs.Ytpiknklaikcilaa.fnRoadsAdd
open Go.RowKit

set_option maxRecDepth 100000 in
set_option maxHeartbeats 4000000 in
theorem walk (A : Option Addr) (xs : List Int) (n c : Nat) (A' : Option Addr) (xs' : List Int) (n' c' : Nat) (w : World) (hl : xs.length = n) (hm : n ≤ maxLen) (hc : n ≤ c) (hx : Bytes xs) (hr : Rd w A (flU xs))
    (hl' : xs'.length = n') (hm' : n' ≤ maxLen) (_hc' : n' ≤ c') (_hx' : Bytes xs') (_hr' : Rd w A' (flU xs')) :
    Calls Try.prog 12 #[.slice A n c, .slice A' n' c'] w (Ret w (.bool true)) := by
  unfold maxLen at hm hm'
  by_cases hn : n ≤ 1048576
  rotate_left
  · go_enter Try.func12, Try.ntmps12
    go_wp2_with fail
    go_ret
    exact ⟨rfl, Below.refl _ _⟩
  by_cases hn' : n' ≤ 1048576
  rotate_left
  · go_enter Try.func12, Try.ntmps12
    go_wp2_with fail
    go_ret
    exact ⟨rfl, Below.refl _ _⟩
  go_enter Try.func12, Try.ntmps12
  go_wp2_with fail
  refine (DrawRoadsAdd_any _ xs _ _ _ hl hn hc hx hr).mono ?_
  clear hl hl' hr hx _hr' _hx'
  rintro e w1 ⟨k, rs, b, m, d, x, y, z, rfl, hk2, hk6, hl1, hm1, ⟨x0, x1⟩, ⟨y0, y1⟩, ⟨z0, z1⟩, ho1, hb1⟩
  have Hl1 := hideIt hl1
  have okx : IntOk x := by unfold IntOk; omega
  have oky : IntOk y := by unfold IntOk; omega
  have HC := hideIt (book_cells w1 (.int .i64 x) (.int .i64 y) (.int .i64 z) 50)
  have hoW := ho1.alloc (.cells #[.int .i64 x, .int .i64 y, .int .i64 z] 50)
  have bW := hb1.alloc hb1.size (.cells #[.int .i64 x, .int .i64 y, .int .i64 z] 50)
  have Hlen := hideIt (show (rs ++ [(x, y, z)]).length = m + 1 by rw [List.length_append, hl1]; rfl)
  clear hl1 ho1 hb1
  cases hv : roadsValid k (rs ++ [(x, y, z)])
  · have Hv := hideIt hv
    have Hj := hideIt (roadsAdd_f hv)
    clear hv
    go_wp2_with fail
    refine (implRoadsAdd_any _ _ _ _ _ _ _ _ _ Hl1.out (by omega) (Rd.of_own hoW)).mono ?_
    rw [Hj.out, Hv.out]
    rintro e w2 ⟨A2, c2, rfl, ho2', BB2⟩
    have ho2 := own_below hoW BB2 (Nat.le_refl _)
    obtain ⟨bx, by0, bz, _⟩ := HC.out _ BB2
    clear hoW ho2'
    go_wp2_with fail
    refine (specRoadsAdd_any _ _ _ _ _ _ _ _ _ Hl1.out (by omega) (Rd.of_own ho2)).mono ?_
    rw [Hj.out, Hv.out]
    rintro e w3 ⟨A3, c3, rfl, ho3', hb3⟩
    have BB3 := below_from BB2 hb3
    clear bx by0 bz ho2 hb3 BB2 ho3'
    go_wp2_with fail
    refine (sameRoads_any _ _ [] [] _ _ _ _ _ rfl rfl (Nat.zero_le _) (Nat.zero_le _) (Rd.nil _ _) (Rd.nil _ _)).mono ?_
    rintro e w4 ⟨rfl, hb4⟩
    have BB4 := below_from BB3 hb4
    go_wp2_with fail
    refine (sameRoads_any _ _ [] [] _ _ _ _ _ rfl rfl (Nat.zero_le _) (Nat.zero_le _) (Rd.nil _ _) (Rd.nil _ _)).mono ?_
    rintro e w5 ⟨rfl, hb5⟩
    have BB5 := below_from BB4 hb5
    go_wp2
    go_ret
    exact ⟨rfl, bW.trans (BB5.mono bW.size)⟩
  obtain ⟨kk, hkk, hrv⟩ := roadsValid_t hv
  obtain rfl : k = kk := by omega
  obtain ⟨p, hp⟩ : ∃ q, n' % k = q := ⟨_, rfl⟩
  obtain ⟨q, hq⟩ : ∃ q, n' / 11 % k = q := ⟨_, rfl⟩
  have hpk : p < k := by rw [← hp]; exact Nat.mod_lt _ (by omega)
  have hqk : q < k := by rw [← hq]; exact Nat.mod_lt _ (by omega)
  have hrem : (n' : Int).tmod (k : Int) = (p : Int) := by rw [← hp]; exact (Int.ofNat_tmod n' k).symm
  have hrem2 : ((n' : Int).tdiv 11).tmod (k : Int) = (q : Int) := by rw [← hq]; rfl
  have hrem3 : ((n' : Int) / 11).tmod (k : Int) = (q : Int) := by rw [← hq]; exact (Int.ofNat_tmod (n' / 11) k).symm
  have okp : IntOk (p : Int) := by unfold IntOk; omega
  have okq : IntOk (q : Int) := by unfold IntOk; omega
  have hk1 : (1 : Int) ≤ (k : Int) := by omega
  have hk0 : ((k : Int) == 0) = false := by simp; omega
  have hkn : ¬ (k : Int) = 0 := by omega
  obtain ⟨g, q1, q2, q3, q4, q5, hdir, hclose, hfar, hmono, hlen⟩ := add_law hrv hpk hqk
  have hsum := g.sumC_in rs.length (Nat.le_refl _)
  rw [Nat.sub_self, List.drop_zero, Hl1.out] at hsum
  have hvr := roadsValid_of g
  have hL : roadsLength k rs = sumC rs := by rw [roadsLength, hvr]; rfl
  have Hv := hideIt hv
  have Hj := hideIt (roadsAdd_t hv)
  have Hclose := hideIt hclose
  have Hdec := hideIt (decide_eq_true (show 0 ≤ direct k (rs ++ [(x, y, z)]) x y by omega))
  have hneg : 0 ≤ dist k rs p q ∨ dist k rs p q = -1 := by rcases g.dist_at hpk hqk with ⟨h1, _⟩ | ⟨h1, _⟩ <;> omega
  rw [← roadsFar_in hvr hpk hqk, ← roadsFar_in hv hpk hqk] at hmono
  rw [← roadsFar_in hvr hpk hqk] at hneg
  rw [hL] at hlen
  obtain ⟨P, hP⟩ : ∃ f, roadsFar k rs p q = f := ⟨_, rfl⟩
  obtain ⟨Q, hQ⟩ : ∃ f, roadsFar k (rs ++ [(x, y, z)]) p q = f := ⟨_, rfl⟩
  obtain ⟨F, hF⟩ : ∃ f, roadsFar k (rs ++ [(x, y, z)]) x y = f := ⟨_, rfl⟩
  obtain ⟨S, hS⟩ : ∃ f, sumC rs = f := ⟨_, rfl⟩
  rw [hP, hQ] at hmono
  rw [hP] at hneg
  rw [hF] at hfar
  rw [hS] at hlen hsum hL
  have HP := hideIt hP
  have HQ := hideIt hQ
  have HF := hideIt hF
  have HL := hideIt hL
  have HL2 := hideIt hlen
  have hws := IntWalk.i64_in (S + z) (by omega)
  clear hP hQ hF hL hlen hS hvr hv hclose hdir hrv g hkk hp hq
  go_wp2_with fail
  refine (implRoadsAdd_any _ _ _ _ _ _ _ _ _ Hl1.out (by omega) (Rd.of_own hoW)).mono ?_
  rw [Hj.out, Hv.out, Hlen.out]
  rintro e w2 ⟨A2, c2, rfl, hx2, BB2⟩
  have ho2 := own_below hoW BB2 (Nat.le_refl _)
  obtain ⟨bx, by0, bz, _⟩ := HC.out _ BB2
  clear hoW
  go_wp2_with fail
  refine (specRoadsAdd_any _ _ _ _ _ _ _ _ _ Hl1.out (by omega) (Rd.of_own ho2)).mono ?_
  rw [Hj.out, Hv.out, Hlen.out]
  rintro e w3 ⟨A3, c3, rfl, hx3', hb3⟩
  have BB3 := below_from BB2 hb3
  have ho3 := own_below ho2 hb3 (Nat.le_refl _)
  have hx3 := own_below hx2 hb3 (Nat.le_refl _)
  clear bx by0 bz ho2 hb3 BB2 hx2
  go_wp2_with fail
  refine (sameRoads_any _ _ _ _ _ _ _ _ _ Hlen.out Hlen.out (by omega) (by omega) (Rd.of_own hx3) (Rd.of_own hx3')).mono ?_
  rw [decide_eq_true rfl]
  rintro e w4 ⟨rfl, hb4⟩
  have BB4 := below_from BB3 hb4
  have ho4 := own_below ho3 hb4 (Nat.le_refl _)
  have hx4 := own_below hx3 hb4 (Nat.le_refl _)
  obtain ⟨bx, by0, bz, _⟩ := HC.out _ BB4
  clear ho3 hb4 BB3 hx3 hx3'
  go_wp2_with fail
  refine (implRoadsClose_any _ _ _ _ _ _ _ _ Hlen.out (by omega) (Rd.of_own hx4) (own_cap hx4) okx oky).mono ?_
  rw [Hclose.out, Hdec.out, Hl1.out]
  rintro e w5 ⟨A5, c5, rfl, hy5, hb5⟩
  have BB5 := below_from BB4 hb5
  have ho5 := own_below ho4 hb5 (Nat.le_refl _)
  have hx5 := own_below hx4 hb5 (Nat.le_refl _)
  clear bx by0 bz ho4 hb5 BB4 hx4
  go_wp2_with fail
  refine (implRoadsFar_any _ _ _ _ _ _ _ _ Hl1.out (by omega) (Rd.of_own ho5) okp okq).mono ?_
  rw [HP.out]
  rintro e w6 ⟨rfl, hb6⟩
  have BB6 := below_from BB5 hb6
  have ho6 := own_below ho5 hb6 (Nat.le_refl _)
  have hx6 := own_below hx5 hb6 (Nat.le_refl _)
  have hy6 := own_below hy5 hb6 (Nat.le_refl _)
  clear ho5 hb6 BB5 hx5 hy5
  go_wp2_with fail
  refine (implRoadsFar_any _ _ _ _ _ _ _ _ Hlen.out (by omega) (Rd.of_own hx6) okp okq).mono ?_
  rw [HQ.out]
  rintro e w7 ⟨rfl, hb7⟩
  have BB7 := below_from BB6 hb7
  have ho7 := own_below ho6 hb7 (Nat.le_refl _)
  have hx7 := own_below hx6 hb7 (Nat.le_refl _)
  have hy7 := own_below hy6 hb7 (Nat.le_refl _)
  clear ho6 hb7 BB6 hx6 hy6
  obtain ⟨bx, by0, bz, _⟩ := HC.out _ BB7
  have HK := hideIt (keep3 bx by0 bz)
  have hro := Rd.of_own ho7
  have hrx := Rd.of_own hx7
  have hry := Rd.of_own hy7
  clear ho7 hx7 hy7 HC hrem hrem2 hrem3
  rcases hneg with hP0 | hP0
  · obtain ⟨hQ0, hQP⟩ := hmono hP0
    have hP1 : ¬ P < 0 := by omega
    have hP2 : decide (P < 0) = false := decide_eq_false hP1
    have hQ1 : decide (0 ≤ Q) = true := decide_eq_true hQ0
    clear hmono
    go_wp2
    go_region_held3 (fun w' => w'.cell? ⟨w1.heap.size, 0, none⟩ = some (.int .i64 x) ∧ w'.cell? ⟨w1.heap.size, 1, none⟩ = some (.int .i64 y) ∧ w'.cell? ⟨w1.heap.size, 2, none⟩ = some (.int .i64 z) ∧ Below w7.heap.size w7 w')
      (first
        | exact HK.out _ (Below.refl _ _).drew
        | exact HK.out _ B1
        | exact HK.out _ B2
        | exact HK.out _ B3
        | exact HK.out _ B4)
      (first
        | (go_split_ands
           go_at_call 44
           refine (sameRoads_any _ _ _ _ _ _ _ _ _ Hl1.out Hl1.out (by omega) (by omega) (hry.below (by assumption) (Nat.le_refl _)) (hro.below (by assumption) (Nat.le_refl _))).mono ?_
           rw [decide_eq_true rfl]
           rintro e w8 ⟨rfl, hb8⟩
           have B1 := below_from (by assumption) hb8)
        | (go_split_ands
           go_at_call 28
           refine (implRoadsFar_any _ _ _ _ _ _ _ _ Hlen.out (by omega) (hrx.below (by assumption) (Nat.le_refl _)) okx oky).mono ?_
           rw [HF.out]
           rintro e w9 ⟨rfl, hb9⟩
           have B2 := below_from (by assumption) hb9)
        | (go_split_ands
           go_at_call 46
           (with_reducible refine (implRoadsLength_any _ _ _ _ _ _ Hlen.out (by omega) (hrx.below (by assumption) (Nat.le_refl _))).mono ?_)
           rw [HL2.out]
           rintro e w10 ⟨rfl, hb10⟩
           have B3 := below_from (by assumption) hb10)
        | (go_split_ands
           go_at_call 46
           (with_reducible refine (implRoadsLength_any _ _ _ _ _ _ Hl1.out (by omega) (hro.below (by assumption) (Nat.le_refl _))).mono ?_)
           rw [HL.out]
           rintro e w11 ⟨rfl, hb11⟩
           have B4 := below_from (by assumption) hb11))
    go_wp2
    go_ret
    exact ⟨rfl, bW.trans ((below_from BB7 B4).mono bW.size)⟩
  · subst hP0
    clear hmono
    go_wp2
    refine wp_region_held_drew (S := fun w' => w'.cell? ⟨w1.heap.size, 0, none⟩ = some (.int .i64 x) ∧ w'.cell? ⟨w1.heap.size, 1, none⟩ = some (.int .i64 y) ∧ w'.cell? ⟨w1.heap.size, 2, none⟩ = some (.int .i64 z) ∧ Below w7.heap.size w7 w') (by kernel_rfl) (HK.out _ (Below.refl _ _).drew) (fun hHeld => ?_)
    refine wpAnyH_take (i := 0) (v := ?_) rfl (by kernel_rfl) (by kernel_rfl) (by kernel_rfl) (fun _ _ _ h => h) (Or.inl ⟨by rfl, ?_⟩) (by assumption) ?_
    rotate_left
    · intro w hSw
      go_simp
      try with_reducible rfl
    simp only [List.getElem_toArray, List.getElem_cons_zero, Act.put, List.setIfInBounds_toArray, List.set_cons_zero, List.set_cons_succ]
    refine wpAnyH_take (i := 1) (v := ?_) rfl (by kernel_rfl) (by kernel_rfl) (by kernel_rfl) (fun _ _ _ h => h) (Or.inl ⟨by rfl, ?_⟩) (by assumption) ?_
    rotate_left
    · intro w hSw
      go_simp
      try with_reducible rfl
    simp only [List.getElem_toArray, List.getElem_cons_zero, List.getElem_cons_succ, Act.put, List.setIfInBounds_toArray, List.set_cons_zero, List.set_cons_succ]
    refine wpAnyH_take (i := 2) (v := ?_) rfl (by kernel_rfl) (by kernel_rfl) (by kernel_rfl) (fun _ _ _ h => h) (Or.inl ⟨by rfl, ?_⟩) (by assumption) ?_
    rotate_left
    · intro w hSw
      go_simp
      try with_reducible rfl
    simp only [List.getElem_toArray, List.getElem_cons_zero, List.getElem_cons_succ, Act.put, List.setIfInBounds_toArray, List.set_cons_zero, List.set_cons_succ]
    refine wpAnyH_take (i := 3) (v := ?_) rfl (by kernel_rfl) (by kernel_rfl) (by kernel_rfl) (fun _ _ _ h => h) (Or.inl ⟨by rfl, ?_⟩) (by assumption) ?_
    rotate_left
    · intro w hSw
      go_simp
      try with_reducible rfl
    simp only [List.getElem_toArray, List.getElem_cons_zero, List.getElem_cons_succ, Act.put, List.setIfInBounds_toArray, List.set_cons_zero, List.set_cons_succ]
    refine wpAnyH_ready (rs := [4]) (by kernel_rfl) (by simp) ?_
    refine AllReadyH.cons rfl (fun K hK => ?_) AllReadyH.nil
    go_simp
    go_at_call 44
    refine (sameRoads_any _ _ _ _ _ _ _ _ _ Hl1.out Hl1.out (by omega) (by omega) (hry.below hHeld.2.2.2 (Nat.le_refl _)) (hro.below hHeld.2.2.2 (Nat.le_refl _))).mono ?_
    rw [decide_eq_true rfl]
    rintro e w8 ⟨rfl, hb8⟩
    have B1 := below_from hHeld.2.2.2 hb8
    clear hHeld
    refine hK.out _ _ ?_ (fun hHeld => ?_)
    · first | exact HK.out _ B4 | exact HK.out _ B3 | exact HK.out _ B2 | exact HK.out _ B1
    clear hK K
    try simp only [List.getElem_toArray, List.getElem_cons_zero, List.getElem_cons_succ, Act.put, List.setIfInBounds_toArray, List.set_cons_zero, List.set_cons_succ]
    refine wpAnyH_take (i := 5) (v := ?_) rfl (by kernel_rfl) (by kernel_rfl) (by kernel_rfl) (fun _ _ _ h => h) (Or.inl ⟨by rfl, ?_⟩) (by assumption) ?_
    rotate_left
    · intro w hSw
      go_simp
      try with_reducible rfl
    simp only [List.getElem_toArray, List.getElem_cons_zero, List.getElem_cons_succ, Act.put, List.setIfInBounds_toArray, List.set_cons_zero, List.set_cons_succ]
    refine wpAnyH_take (i := 6) (v := ?_) rfl (by kernel_rfl) (by kernel_rfl) (by kernel_rfl) (fun _ _ _ h => h) (Or.inl ⟨by rfl, ?_⟩) (by assumption) ?_
    rotate_left
    · intro w hSw
      go_simp
      try with_reducible rfl
    simp only [List.getElem_toArray, List.getElem_cons_zero, List.getElem_cons_succ, Act.put, List.setIfInBounds_toArray, List.set_cons_zero, List.set_cons_succ]
    refine wpAnyH_take (i := 7) (v := ?_) rfl (by kernel_rfl) (by kernel_rfl) (by kernel_rfl) (fun _ _ _ h => h) (Or.inl ⟨by rfl, ?_⟩) (by assumption) ?_
    rotate_left
    · intro w hSw
      go_simp
      try with_reducible rfl
    simp only [List.getElem_toArray, List.getElem_cons_zero, List.getElem_cons_succ, Act.put, List.setIfInBounds_toArray, List.set_cons_zero, List.set_cons_succ]
    refine wpAnyH_take (i := 8) (v := ?_) rfl (by kernel_rfl) (by kernel_rfl) (by kernel_rfl) (fun _ _ _ h => h) (Or.inl ⟨by rfl, ?_⟩) (by assumption) ?_
    rotate_left
    · intro w hSw
      go_simp
      try with_reducible rfl
    simp only [List.getElem_toArray, List.getElem_cons_zero, List.getElem_cons_succ, Act.put, List.setIfInBounds_toArray, List.set_cons_zero, List.set_cons_succ]
    refine wpAnyH_take (i := 9) (v := ?_) rfl (by kernel_rfl) (by kernel_rfl) (by kernel_rfl) (fun _ _ _ h => h) (Or.inl ⟨by rfl, ?_⟩) (by assumption) ?_
    rotate_left
    · intro w hSw
      go_simp
      try with_reducible rfl
    simp only [List.getElem_toArray, List.getElem_cons_zero, List.getElem_cons_succ, Act.put, List.setIfInBounds_toArray, List.set_cons_zero, List.set_cons_succ]
    refine wpAnyH_take (i := 10) (v := ?_) rfl (by kernel_rfl) (by kernel_rfl) (by kernel_rfl) (fun _ _ _ h => h) (Or.inl ⟨by rfl, ?_⟩) (by assumption) ?_
    rotate_left
    · intro w hSw
      go_simp
      try with_reducible rfl
    simp only [List.getElem_toArray, List.getElem_cons_zero, List.getElem_cons_succ, Act.put, List.setIfInBounds_toArray, List.set_cons_zero, List.set_cons_succ]
    refine wpAnyH_take (i := 11) (v := ?_) rfl (by kernel_rfl) (by kernel_rfl) (by kernel_rfl) (fun _ _ _ h => h) (Or.inl ⟨by rfl, ?_⟩) (by assumption) ?_
    rotate_left
    · intro w hSw
      go_simp
      try with_reducible rfl
    simp only [List.getElem_toArray, List.getElem_cons_zero, List.getElem_cons_succ, Act.put, List.setIfInBounds_toArray, List.set_cons_zero, List.set_cons_succ]
    refine wpAnyH_take (i := 12) (v := ?_) rfl (by kernel_rfl) (by kernel_rfl) (by kernel_rfl) (fun _ _ _ h => h) (Or.inl ⟨by rfl, ?_⟩) (by assumption) ?_
    rotate_left
    · intro w hSw
      go_simp
      try with_reducible rfl
    simp only [List.getElem_toArray, List.getElem_cons_zero, List.getElem_cons_succ, Act.put, List.setIfInBounds_toArray, List.set_cons_zero, List.set_cons_succ]
    refine wpAnyH_take (i := 14) (v := ?_) rfl (by kernel_rfl) (by kernel_rfl) (by kernel_rfl) (fun _ _ _ h => h) (Or.inl ⟨by rfl, ?_⟩) (by assumption) ?_
    rotate_left
    · intro w hSw
      go_simp
      try with_reducible rfl
    simp only [List.getElem_toArray, List.getElem_cons_zero, List.getElem_cons_succ, Act.put, List.setIfInBounds_toArray, List.set_cons_zero, List.set_cons_succ]
    refine wpAnyH_take (i := 15) (v := ?_) rfl (by kernel_rfl) (by kernel_rfl) (by kernel_rfl) (fun _ _ _ h => h) (Or.inl ⟨by rfl, ?_⟩) (by assumption) ?_
    rotate_left
    · intro w hSw
      go_simp
      try with_reducible rfl
    simp only [List.getElem_toArray, List.getElem_cons_zero, List.getElem_cons_succ, Act.put, List.setIfInBounds_toArray, List.set_cons_zero, List.set_cons_succ]
    refine wpAnyH_ready (rs := [13]) (by kernel_rfl) (by simp) ?_
    refine AllReadyH.cons rfl (fun K hK => ?_) AllReadyH.nil
    go_simp
    go_at_call 28
    refine (implRoadsFar_any _ _ _ _ _ _ _ _ Hlen.out (by omega) (hrx.below hHeld.2.2.2 (Nat.le_refl _)) okx oky).mono ?_
    rw [HF.out]
    rintro e w9 ⟨rfl, hb9⟩
    have B2 := below_from hHeld.2.2.2 hb9
    clear hHeld
    refine hK.out _ _ ?_ (fun hHeld => ?_)
    · first | exact HK.out _ B4 | exact HK.out _ B3 | exact HK.out _ B2 | exact HK.out _ B1
    clear hK K
    try simp only [List.getElem_toArray, List.getElem_cons_zero, List.getElem_cons_succ, Act.put, List.setIfInBounds_toArray, List.set_cons_zero, List.set_cons_succ]
    refine wpAnyH_take (i := 16) (v := ?_) rfl (by kernel_rfl) (by kernel_rfl) (by kernel_rfl) (fun _ _ _ h => h) (Or.inl ⟨by rfl, ?_⟩) (by assumption) ?_
    rotate_left
    · intro w hSw
      go_simp
      try with_reducible rfl
    simp only [List.getElem_toArray, List.getElem_cons_zero, List.getElem_cons_succ, Act.put, List.setIfInBounds_toArray, List.set_cons_zero, List.set_cons_succ]
    refine wpAnyH_take (i := 17) (v := ?_) rfl (by kernel_rfl) (by kernel_rfl) (by kernel_rfl) (fun _ _ _ h => h) (Or.inl ⟨by rfl, ?_⟩) (by assumption) ?_
    rotate_left
    · intro w hSw
      go_simp
      try with_reducible rfl
    simp only [List.getElem_toArray, List.getElem_cons_zero, List.getElem_cons_succ, Act.put, List.setIfInBounds_toArray, List.set_cons_zero, List.set_cons_succ]
    refine wpAnyH_take (i := 18) (v := ?_) rfl (by kernel_rfl) (by kernel_rfl) (by kernel_rfl) (fun _ _ _ h => h) (Or.inl ⟨by rfl, ?_⟩) (by assumption) ?_
    rotate_left
    · intro w hSw
      go_simp
      try with_reducible rfl
    simp only [List.getElem_toArray, List.getElem_cons_zero, List.getElem_cons_succ, Act.put, List.setIfInBounds_toArray, List.set_cons_zero, List.set_cons_succ]
    refine wpAnyH_take (i := 19) (v := ?_) rfl (by kernel_rfl) (by kernel_rfl) (by kernel_rfl) (fun _ _ _ h => h) (Or.inl ⟨by rfl, ?_⟩) (by assumption) ?_
    rotate_left
    · intro w hSw
      go_simp
      try with_reducible rfl
    simp only [List.getElem_toArray, List.getElem_cons_zero, List.getElem_cons_succ, Act.put, List.setIfInBounds_toArray, List.set_cons_zero, List.set_cons_succ]
    refine wpAnyH_take (i := 20) (v := ?_) rfl (by kernel_rfl) (by kernel_rfl) (by kernel_rfl) (fun _ _ _ h => h) (Or.inl ⟨by rfl, ?_⟩) (by assumption) ?_
    rotate_left
    · intro w hSw
      go_simp
      try with_reducible rfl
    simp only [List.getElem_toArray, List.getElem_cons_zero, List.getElem_cons_succ, Act.put, List.setIfInBounds_toArray, List.set_cons_zero, List.set_cons_succ]
    refine wpAnyH_take (i := 21) (v := ?_) rfl (by kernel_rfl) (by kernel_rfl) (by kernel_rfl) (fun _ _ _ h => h) (Or.inl ⟨by rfl, ?_⟩) (by assumption) ?_
    rotate_left
    · intro w hSw
      go_simp
      try with_reducible rfl
    simp only [List.getElem_toArray, List.getElem_cons_zero, List.getElem_cons_succ, Act.put, List.setIfInBounds_toArray, List.set_cons_zero, List.set_cons_succ]
    refine wpAnyH_take (i := 22) (v := undef) rfl (by kernel_rfl) (by kernel_rfl) (by kernel_rfl) (fun _ _ _ h => h) (Or.inr ⟨by rfl, rfl⟩) (by assumption) ?_
    simp only [List.getElem_toArray, List.getElem_cons_zero, List.getElem_cons_succ, Act.put, List.setIfInBounds_toArray, List.set_cons_zero, List.set_cons_succ]
    refine wpAnyH_take (i := 23) (v := undef) rfl (by kernel_rfl) (by kernel_rfl) (by kernel_rfl) (fun _ _ _ h => h) (Or.inr ⟨by rfl, rfl⟩) (by assumption) ?_
    simp only [List.getElem_toArray, List.getElem_cons_zero, List.getElem_cons_succ, Act.put, List.setIfInBounds_toArray, List.set_cons_zero, List.set_cons_succ]
    refine wpAnyH_take (i := 24) (v := undef) rfl (by kernel_rfl) (by kernel_rfl) (by kernel_rfl) (fun _ _ _ h => h) (Or.inr ⟨by rfl, rfl⟩) (by assumption) ?_
    simp only [List.getElem_toArray, List.getElem_cons_zero, List.getElem_cons_succ, Act.put, List.setIfInBounds_toArray, List.set_cons_zero, List.set_cons_succ]
    refine wpAnyH_take (i := 25) (v := undef) rfl (by kernel_rfl) (by kernel_rfl) (by kernel_rfl) (fun _ _ _ h => h) (Or.inr ⟨by rfl, rfl⟩) (by assumption) ?_
    simp only [List.getElem_toArray, List.getElem_cons_zero, List.getElem_cons_succ, Act.put, List.setIfInBounds_toArray, List.set_cons_zero, List.set_cons_succ]
    refine wpAnyH_take (i := 26) (v := undef) rfl (by kernel_rfl) (by kernel_rfl) (by kernel_rfl) (fun _ _ _ h => h) (Or.inr ⟨by rfl, rfl⟩) (by assumption) ?_
    simp only [List.getElem_toArray, List.getElem_cons_zero, List.getElem_cons_succ, Act.put, List.setIfInBounds_toArray, List.set_cons_zero, List.set_cons_succ]
    refine wpAnyH_take (i := 27) (v := undef) rfl (by kernel_rfl) (by kernel_rfl) (by kernel_rfl) (fun _ _ _ h => h) (Or.inr ⟨by rfl, rfl⟩) (by assumption) ?_
    simp only [List.getElem_toArray, List.getElem_cons_zero, List.getElem_cons_succ, Act.put, List.setIfInBounds_toArray, List.set_cons_zero, List.set_cons_succ]
    refine wpAnyH_take (i := 28) (v := undef) rfl (by kernel_rfl) (by kernel_rfl) (by kernel_rfl) (fun _ _ _ h => h) (Or.inr ⟨by rfl, rfl⟩) (by assumption) ?_
    simp only [List.getElem_toArray, List.getElem_cons_zero, List.getElem_cons_succ, Act.put, List.setIfInBounds_toArray, List.set_cons_zero, List.set_cons_succ]
    refine wpAnyH_take (i := 29) (v := ?_) rfl (by kernel_rfl) (by kernel_rfl) (by kernel_rfl) (fun _ _ _ h => h) (Or.inl ⟨by rfl, ?_⟩) (by assumption) ?_
    rotate_left
    · intro w hSw
      go_simp
      try with_reducible rfl
    simp only [List.getElem_toArray, List.getElem_cons_zero, List.getElem_cons_succ, Act.put, List.setIfInBounds_toArray, List.set_cons_zero, List.set_cons_succ]
    refine wpAnyH_take (i := 30) (v := ?_) rfl (by kernel_rfl) (by kernel_rfl) (by kernel_rfl) (fun _ _ _ h => h) (Or.inl ⟨by rfl, ?_⟩) (by assumption) ?_
    rotate_left
    · intro w hSw
      go_simp
      try with_reducible rfl
    simp only [List.getElem_toArray, List.getElem_cons_zero, List.getElem_cons_succ, Act.put, List.setIfInBounds_toArray, List.set_cons_zero, List.set_cons_succ]
    refine wpAnyH_take (i := 31) (v := ?_) rfl (by kernel_rfl) (by kernel_rfl) (by kernel_rfl) (fun _ _ _ h => h) (Or.inl ⟨by rfl, ?_⟩) (by assumption) ?_
    rotate_left
    · intro w hSw
      go_simp
      try with_reducible rfl
    simp only [List.getElem_toArray, List.getElem_cons_zero, List.getElem_cons_succ, Act.put, List.setIfInBounds_toArray, List.set_cons_zero, List.set_cons_succ]
    refine wpAnyH_take (i := 32) (v := ?_) rfl (by kernel_rfl) (by kernel_rfl) (by kernel_rfl) (fun _ _ _ h => h) (Or.inl ⟨by rfl, ?_⟩) (by assumption) ?_
    rotate_left
    · intro w hSw
      go_simp
      try with_reducible rfl
    simp only [List.getElem_toArray, List.getElem_cons_zero, List.getElem_cons_succ, Act.put, List.setIfInBounds_toArray, List.set_cons_zero, List.set_cons_succ]
    refine wpAnyH_take (i := 33) (v := ?_) rfl (by kernel_rfl) (by kernel_rfl) (by kernel_rfl) (fun _ _ _ h => h) (Or.inl ⟨by rfl, ?_⟩) (by assumption) ?_
    rotate_left
    · intro w hSw
      go_simp
      try with_reducible rfl
    simp only [List.getElem_toArray, List.getElem_cons_zero, List.getElem_cons_succ, Act.put, List.setIfInBounds_toArray, List.set_cons_zero, List.set_cons_succ]
    refine wpAnyH_take (i := 35) (v := ?_) rfl (by kernel_rfl) (by kernel_rfl) (by kernel_rfl) (fun _ _ _ h => h) (Or.inl ⟨by rfl, ?_⟩) (by assumption) ?_
    rotate_left
    · intro w hSw
      go_simp
      try with_reducible rfl
    simp only [List.getElem_toArray, List.getElem_cons_zero, List.getElem_cons_succ, Act.put, List.setIfInBounds_toArray, List.set_cons_zero, List.set_cons_succ]
    refine wpAnyH_take (i := 36) (v := ?_) rfl (by kernel_rfl) (by kernel_rfl) (by kernel_rfl) (fun _ _ _ h => h) (Or.inl ⟨by rfl, ?_⟩) (by assumption) ?_
    rotate_left
    · intro w hSw
      go_simp
      try with_reducible rfl
    simp only [List.getElem_toArray, List.getElem_cons_zero, List.getElem_cons_succ, Act.put, List.setIfInBounds_toArray, List.set_cons_zero, List.set_cons_succ]
    refine wpAnyH_take (i := 38) (v := ?_) rfl (by kernel_rfl) (by kernel_rfl) (by kernel_rfl) (fun _ _ _ h => h) (Or.inl ⟨by rfl, ?_⟩) (by assumption) ?_
    rotate_left
    · intro w hSw
      go_simp
      try with_reducible rfl
    simp only [List.getElem_toArray, List.getElem_cons_zero, List.getElem_cons_succ, Act.put, List.setIfInBounds_toArray, List.set_cons_zero, List.set_cons_succ]
    refine wpAnyH_take (i := 39) (v := ?_) rfl (by kernel_rfl) (by kernel_rfl) (by kernel_rfl) (fun _ _ _ h => h) (Or.inl ⟨by rfl, ?_⟩) (by assumption) ?_
    rotate_left
    · intro w hSw
      go_simp
      try with_reducible rfl
    simp only [List.getElem_toArray, List.getElem_cons_zero, List.getElem_cons_succ, Act.put, List.setIfInBounds_toArray, List.set_cons_zero, List.set_cons_succ]
    refine wpAnyH_ready (rs := [34]) (by kernel_rfl) (by simp) ?_
    refine AllReadyH.cons rfl (fun K hK => ?_) AllReadyH.nil
    go_simp
    go_at_call 46
    refine (implRoadsLength_any _ _ _ _ _ _ Hlen.out (by omega) (hrx.below hHeld.2.2.2 (Nat.le_refl _))).mono ?_
    rw [HL2.out]
    rintro e w10 ⟨rfl, hb10⟩
    have B3 := below_from hHeld.2.2.2 hb10
    clear hHeld
    refine hK.out _ _ ?_ (fun hHeld => ?_)
    · first | exact HK.out _ B4 | exact HK.out _ B3 | exact HK.out _ B2 | exact HK.out _ B1
    clear hK K
    try simp only [List.getElem_toArray, List.getElem_cons_zero, List.getElem_cons_succ, Act.put, List.setIfInBounds_toArray, List.set_cons_zero, List.set_cons_succ]
    refine wpAnyH_ready (rs := [37]) (by kernel_rfl) (by simp) ?_
    refine AllReadyH.cons rfl (fun K hK => ?_) AllReadyH.nil
    go_simp
    go_at_call 46
    refine (implRoadsLength_any _ _ _ _ _ _ Hl1.out (by omega) (hro.below hHeld.2.2.2 (Nat.le_refl _))).mono ?_
    rw [HL.out]
    rintro e w11 ⟨rfl, hb11⟩
    have B4 := below_from hHeld.2.2.2 hb11
    clear hHeld
    refine hK.out _ _ ?_ (fun hHeld => ?_)
    · first | exact HK.out _ B4 | exact HK.out _ B3 | exact HK.out _ B2 | exact HK.out _ B1
    clear hK K
    try simp only [List.getElem_toArray, List.getElem_cons_zero, List.getElem_cons_succ, Act.put, List.setIfInBounds_toArray, List.set_cons_zero, List.set_cons_succ]
    refine wpAnyH_take (i := 40) (v := ?_) rfl (by kernel_rfl) (by kernel_rfl) (by kernel_rfl) (fun _ _ _ h => h) (Or.inl ⟨by rfl, ?_⟩) (by assumption) ?_
    rotate_left
    · intro w hSw
      go_simp
      try with_reducible rfl
    simp only [List.getElem_toArray, List.getElem_cons_zero, List.getElem_cons_succ, Act.put, List.setIfInBounds_toArray, List.set_cons_zero, List.set_cons_succ]
    refine wpAnyH_take (i := 41) (v := ?_) rfl (by kernel_rfl) (by kernel_rfl) (by kernel_rfl) (fun _ _ _ h => h) (Or.inl ⟨by rfl, ?_⟩) (by assumption) ?_
    rotate_left
    · intro w hSw
      go_simp
      try with_reducible rfl
    simp only [List.getElem_toArray, List.getElem_cons_zero, List.getElem_cons_succ, Act.put, List.setIfInBounds_toArray, List.set_cons_zero, List.set_cons_succ]
    refine wpAnyH_take (i := 42) (v := ?_) rfl (by kernel_rfl) (by kernel_rfl) (by kernel_rfl) (fun _ _ _ h => h) (Or.inl ⟨by rfl, ?_⟩) (by assumption) ?_
    rotate_left
    · intro w hSw
      go_simp
      try with_reducible rfl
    simp only [List.getElem_toArray, List.getElem_cons_zero, List.getElem_cons_succ, Act.put, List.setIfInBounds_toArray, List.set_cons_zero, List.set_cons_succ]
    refine wpAnyH_take (i := 43) (v := ?_) rfl (by kernel_rfl) (by kernel_rfl) (by kernel_rfl) (fun _ _ _ h => h) (Or.inl ⟨by rfl, ?_⟩) (by assumption) ?_
    rotate_left
    · intro w hSw
      go_simp
      try with_reducible rfl
    simp only [List.getElem_toArray, List.getElem_cons_zero, List.getElem_cons_succ, Act.put, List.setIfInBounds_toArray, List.set_cons_zero, List.set_cons_succ]
    refine wpAnyH_done (by kernel_rfl) ?_ _
    go_wp2
    go_ret
    exact ⟨rfl, bW.trans ((below_from BB7 B4).mono bW.size)⟩
end Go.Proofs.Ytpiknklaikcilaa.fnRoadsAdd

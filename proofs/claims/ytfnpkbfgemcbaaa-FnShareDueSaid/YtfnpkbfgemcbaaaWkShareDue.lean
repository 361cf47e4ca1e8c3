/- The walk of FnShareDue. -/
import Derived.Test.YtfnpkbfgemcbaaaDrPa2
import Derived.Test.YtfnpkbfgemcbaaaPlLaw
import Derived.Test.YtfnpkbfgemcbaaaShMk
import Derived.Test.YtfnpkbfgemcbaaaSame
namespace Go.Proofs.Ytfnpkbfgemcbaaa.fnShareDue
open Go.RowKit

/-- the first k dues divide -/
def divTo (D : List Int) (S : Int) : Nat → Bool
  | 0 => true
  | k + 1 => divTo D S k && decide (a1 D k % S = 0)
theorem divTo_iff {D : List Int} {S : Int} : ∀ k, divTo D S k = true ↔ ∀ i, i < k → a1 D i % S = 0 := by
  intro k
  induction k with
  | zero => simp [divTo]
  | succ k ih =>
    rw [divTo, Bool.and_eq_true, ih, decide_eq_true_eq]
    constructor
    · rintro ⟨h1, h2⟩ i hi
      by_cases e : i = k
      · subst e; exact h2
      · exact h1 i (by omega)
    · intro h
      exact ⟨fun i hi => h i (by omega), h k (by omega)⟩
theorem due_law {ps : List (Int × Int)} {a : Int} (h : dueOk ps a = true) : ∃ D : List Int, shareDue ps a = D ∧ D.length = 6 ∧ partsValid ps = true ∧ 0 ≤ a ∧ a ≤ 1000000 ∧ partsLength ps = sumB ps ∧ 1 ≤ sumB ps ∧ sumB ps ≤ 1188 ∧ sum1 D = a * sumB ps ∧ (∀ i, i < 6 → 0 ≤ a1 D i ∧ a1 D i ≤ 1188000000) ∧ ∀ R, ShareIs (miles ps) (sumB ps) a R → (∀ i, i < 6 → a1 D i % sumB ps = 0) → ∀ i, i < 6 → a1 R i * sumB ps = a1 D i := by
  have h2 := h
  simp only [dueOk, Bool.and_eq_true, decide_eq_true_eq] at h2
  obtain ⟨hv, h0, h1⟩ := h2
  obtain ⟨m1, m2, m3, m4⟩ := miles_all hv
  have hat : ∀ i, i < 6 → a1 ((miles ps).map (· * a)) i = a1 (miles ps) i * a := fun i hi => by
    unfold a1
    rw [List.getD_eq_getElem?_getD, List.getD_eq_getElem?_getD, List.getElem?_map, List.getElem?_eq_getElem (by rw [miles_len]; exact hi)]
    rfl
  refine ⟨(miles ps).map (· * a), by rw [shareDue, if_pos h], by rw [List.length_map, miles_len], hv, h0, h1, by rw [partsLength, if_pos hv], m3, m4, by rw [sum1_mul, sum1_miles hv], fun i hi => ?_, fun R hR hd i hi => ?_⟩
  · rw [hat i hi]
    have := m1 i hi
    have h3 := Int.mul_le_mul_of_nonneg_right (show a1 (miles ps) i ≤ 1188 by omega) h0
    exact ⟨Int.mul_nonneg this.1 h0, by omega⟩
  · rw [hat i hi, Int.mul_comm (a1 (miles ps) i) a]
    refine hR.exact m3 m2 (fun j hj => ?_) i hi
    have := hd j hj
    rw [hat j hj, Int.mul_comm] at this
    exact this

set_option maxRecDepth 100000 in
set_option maxHeartbeats 4000000 in
theorem walk (A : Option Addr) (xs : List Int) (n c : Nat) (w : World) (hl : xs.length = n) (hm : n ≤ maxLen) (hc : n ≤ c) (hx : Bytes xs) (hr : Rd w A (flU xs)) :
    Calls Try.prog 8 #[.slice A n c] w (Ret w (.bool true)) := by
  unfold maxLen at hm
  by_cases hn : n ≤ 1048576
  rotate_left
  · go_enter Try.func8, Try.ntmps8
    go_wp2_with fail
    go_ret
    exact ⟨rfl, Below.refl _ _⟩
  go_enter Try.func8, Try.ntmps8
  go_wp2_with fail
  refine (DrawShareDue_any _ xs _ _ _ hl hn hc hx hr).mono ?_
  clear hl hr hx
  rintro e w1 ⟨ps, ad, m, d, a, rfl, hl1, hm1, alo, ahi, ho1, hb1⟩
  have Hl1 := hideIt hl1
  clear hl1
  have rP := Rd.of_own ho1
  clear ho1
  cases hok : dueOk ps a
  · have Hok := hideIt hok
    have hp : shareDue ps a = [] := by rw [shareDue, hok]; rfl
    have Hp := hideIt hp
    clear hok hp
    go_wp2_with fail
    refine (implShareDue_any _ _ _ _ _ _ Hl1.out (by omega) rP).mono ?_
    rw [Hok.out, Hp.out]
    rintro e w2 ⟨A2, c2, rfl, _, hb2⟩
    have q2 := hb1.trans (hb2.mono hb1.size)
    go_wp2_with fail
    refine (specShareDue_any _ _ _ _ _ _ Hl1.out (by omega) (rP.below hb2 (Nat.le_refl _))).mono ?_
    rw [Hok.out, Hp.out]
    rintro e w3 ⟨A3, c3, rfl, _, hb3⟩
    have q3 := q2.trans (hb3.mono q2.size)
    go_wp2_with fail
    refine (sameInts_any _ _ [] [] _ _ _ _ _ rfl rfl (Nat.zero_le _) (Nat.zero_le _) (Rd.nil _ _) (Rd.nil _ _)).mono ?_
    rintro e w4 ⟨rfl, hb4⟩
    have q4 := q3.trans (hb4.mono q3.size)
    go_wp2_with fail
    refine (sameInts_any _ _ [] [] _ _ _ _ _ rfl rfl (Nat.zero_le _) (Nat.zero_le _) (Rd.nil _ _) (Rd.nil _ _)).mono ?_
    rintro e w5 ⟨rfl, hb5⟩
    go_wp2
    go_ret
    exact ⟨rfl, q4.trans (hb5.mono q4.size)⟩
  obtain ⟨D, hD, dl, hv, a0, a1', hlen, s1, s2, hsum, hDin, hlaw⟩ := due_law hok
  obtain ⟨S, hS⟩ : ∃ q, sumB ps = q := ⟨_, rfl⟩
  have Hv := hideIt hv
  have HSb := hideIt hS
  rw [hS] at hlen s1 s2 hsum hlaw
  have Hok := hideIt hok
  have HD := hideIt hD
  have Hdl := hideIt dl
  have Hlen := hideIt hlen
  have Hsum := hideIt hsum
  have HDin : Hid (∀ i, i < 6 → 0 ≤ a1 D i ∧ a1 D i ≤ 1188000000) := hideIt hDin
  have Hlaw : Hid (∀ R, ShareIs (miles ps) S a R → (∀ i, i < 6 → a1 D i % S = 0) → ∀ i, i < 6 → a1 R i * S = a1 D i) := hideIt hlaw
  have hS0 : (S == 0) = false := by simp; omega
  have hSn : ¬ S = 0 := by omega
  clear hok hD dl hv hlen hsum hDin hlaw hS
  go_wp2_with fail
  refine (implShareDue_any _ _ _ _ _ _ Hl1.out (by omega) rP).mono ?_
  rw [Hok.out, HD.out, Hdl.out]
  rintro e w2 ⟨A2, c2, rfl, hd2, hb2⟩
  have q2 := hb1.trans (hb2.mono hb1.size)
  have rP2 := rP.below hb2 (Nat.le_refl _)
  clear hb1 hb2 rP
  go_wp2_with fail
  refine (specShareDue_any _ _ _ _ _ _ Hl1.out (by omega) rP2).mono ?_
  rw [Hok.out, HD.out, Hdl.out]
  rintro e w3 ⟨A3, d3, rfl, hx3, hb3⟩
  have q3 := q2.trans (hb3.mono q2.size)
  have rP3 := rP2.below hb3 (Nat.le_refl _)
  have hd3 := own_below hd2 hb3 (Nat.le_refl _)
  clear q2 hb3 rP2 hd2
  go_wp2_with fail
  refine (sameInts_any _ _ _ _ _ _ _ _ _ Hdl.out Hdl.out (by omega) (by omega) (Rd.of_own hd3) (Rd.of_own hx3)).mono ?_
  rw [decide_eq_true rfl]
  rintro e w4 ⟨rfl, hb4⟩
  have q4 := q3.trans (hb4.mono q3.size)
  have rP4 := rP3.below hb4 (Nat.le_refl _)
  have rD4 := Rd.of_own (own_below hd3 hb4 (Nat.le_refl _))
  clear q3 hb4 rP3 hd3 hx3
  go_wp2_with fail
  refine (implPartsLength_any _ _ _ _ _ Hl1.out (by omega) rP4).mono ?_
  rw [Hlen.out]
  rintro e w5 ⟨rfl, hb5⟩
  have q5 := q4.trans (hb5.mono q4.size)
  have rP5 := rP4.below hb5 (Nat.le_refl _)
  have rD5 := rD4.below hb5 (Nat.le_refl _)
  clear q4 hb5 rP4 rD4
  go_wp2_with fail
  refine (implShareMake_t _ ps _ _ a _ Hl1.out (by omega) rP5 Hv.out a0 a1').mono ?_
  rintro e w6 ⟨R, hR, A6, d6, rfl, hs6, hb6⟩
  rw [HSb.out] at hR
  have HRl := hideIt hR.len
  have HR : Hid ((∀ i, i < 6 → a1 D i % S = 0) → ∀ i, i < 6 → a1 R i * S = a1 D i) := hideIt (Hlaw.out R hR)
  have q6 := q5.trans (hb6.mono q5.size)
  have rD6 := rD5.below hb6 (Nat.le_refl _)
  have rS6 := Rd.of_own hs6
  clear q5 hb6 rP5 rD5 hs6 hR Hlaw
  obtain ⟨db, do', rfl, hdl, hdc⟩ := rD6.at1 (k := 0) (by rw [Hdl.out]; omega)
  obtain ⟨sb, so, rfl, hsl, hsc⟩ := rS6.at1 (k := 0) (by rw [HRl.out]; omega)
  have Hdc : Hid (∀ w', Below w6.heap.size w6 w' → ∀ i, i < 6 → w'.cell? ⟨db, do' + i, none⟩ = some (.int .i64 (a1 D i))) := hideIt (fun w' hb i hi => (hb.cell (p := ⟨db, do' + i, none⟩) hdl).trans (hdc i (by rw [Hdl.out]; exact hi)))
  have Hsc : Hid (∀ w', Below w6.heap.size w6 w' → ∀ i, i < 6 → w'.cell? ⟨sb, so + i, none⟩ = some (.int .i64 (a1 R i))) := hideIt (fun w' hb i hi => (hb.cell (p := ⟨sb, so + i, none⟩) hsl).trans (hsc i (by rw [HRl.out]; exact hi)))
  clear hdc hsc
  go_wp2
  go_loopw [12, 13] (fun b i wr => ∃ k : Nat, k ≤ 6 ∧ i = .int .i64 k ∧ b = .bool (divTo D S k) ∧ Below w6.heap.size w6 wr) (fun _ i _ => 6 - (intOf i).toNat)
  case atStart => exact ⟨0, by omega, rfl, rfl, Below.refl _ _⟩
  case round =>
    obtain ⟨k, hk, rfl, rfl, bd⟩ := hrel
    by_cases hlt : k < 6
    · have hck := Hdc.out _ bd k hlt
      have hin := HDin.out k hlt
      have hk6 : (k : Int) < 6 := by omega
      obtain ⟨x, hxe⟩ : ∃ x, a1 D k = x := ⟨_, rfl⟩
      rw [hxe] at hck hin
      obtain ⟨r, hre⟩ : ∃ r, x % S = r := ⟨_, rfl⟩
      have htm : x.tmod S = r := by rw [← hre]; exact Int.tmod_eq_emod_of_nonneg hin.1
      cases hb : divTo D S k
      · have Hn := hideIt (show false = divTo D S (k + 1) by rw [divTo, hb]; rfl)
        clear hb hre hxe htm
        go_wp2
        go_roundw
        case rel => exact ⟨k + 1, by omega, by go_num, by rw [← Hn.out], bd⟩
        case measure => simp [intOf]; omega
      · by_cases hr0 : r = 0
        · have Hn := hideIt (show true = divTo D S (k + 1) by rw [divTo, hb, hxe, hre, hr0]; rfl)
          have hr1 : (r == 0) = true := by simp [hr0]
          clear hb hre hxe hr0
          go_wp2
          go_roundw
          case rel => exact ⟨k + 1, by omega, by go_num, by rw [← Hn.out], bd⟩
          case measure => simp [intOf]; omega
        · have Hn := hideIt (show false = divTo D S (k + 1) by rw [divTo, hb, hxe, hre, decide_eq_false hr0]; rfl)
          have hr1 : (r == 0) = false := by simp [hr0]
          clear hb hre hxe hr0
          go_wp2
          go_roundw
          case rel => exact ⟨k + 1, by omega, by go_num, by rw [← Hn.out], bd⟩
          case measure => simp [intOf]; omega
    · obtain rfl : k = 6 := by omega
      have hsm : InR (-2000000000) 2000000000 D := fun i hi => by
        have := HDin.out i (by rw [← Hdl.out]; exact hi)
        omega
      have Hsm : Hid (InR (-2000000000) 2000000000 D) := hideIt hsm
      have haS : 0 ≤ a * S ∧ a * S ≤ 1188000000 := ⟨Int.mul_nonneg a0 (by omega), by have := Int.mul_le_mul a1' s2 (by omega) (by omega : (0 : Int) ≤ 1000000); omega⟩
      have hwaS : IntKind.i64.wrap (a * S) = a * S := IntWalk.i64_in _ (by omega)
      clear hsm haS
      cases hb : divTo D S 6
      · clear hb
        go_wp2
        go_loopw [14] (fun i wv => i = .int .i64 0 ∧ wr = wv) (fun _ _ => 0)
        case atStart => exact ⟨rfl, rfl⟩
        case round =>
          obtain ⟨rfl, rfl⟩ := hrel
          go_wp2_with fail
          refine (sumOf_any _ _ _ _ 2000000000 _ Hdl.out (by omega) (rD6.below bd (Nat.le_refl _)) (by omega) Hsm.out).mono ?_
          rw [Hsum.out]
          rintro e w7 ⟨rfl, rfl⟩
          go_wp2
          go_ret
          exact ⟨by simp, q6.trans (bd.mono q6.size)⟩
      · have HE : Hid (∀ i, i < 6 → a1 R i * S = a1 D i) := hideIt (HR.out ((divTo_iff 6).1 hb))
        clear hb
        go_wp2
        go_loopw [14] (fun i wv => ∃ k : Nat, k ≤ 6 ∧ i = .int .i64 k ∧ Below w6.heap.size w6 wv) (fun i _ => 6 - (intOf i).toNat)
        case atStart => exact ⟨0, by omega, rfl, bd⟩
        case round =>
          clear bd
          obtain ⟨k, hk, rfl, be⟩ := hrel
          by_cases hlt : k < 6
          · have hck := Hdc.out _ be k hlt
            have hsk := Hsc.out _ be k hlt
            have hin := HDin.out k hlt
            have he := HE.out k hlt
            have hk6 : (k : Int) < 6 := by omega
            obtain ⟨x, hxe⟩ : ∃ x, a1 D k = x := ⟨_, rfl⟩
            obtain ⟨t, hte⟩ : ∃ x, a1 R k = x := ⟨_, rfl⟩
            rw [hxe] at hck hin he
            rw [hte] at hsk he
            have hwt : IntKind.i64.wrap (t * S) = x := by rw [he]; exact IntWalk.i64_in _ (by omega)
            clear hxe hte he
            go_wp2_with fail
            go_quiet (fail)
            go_wp2
            go_roundw
            case rel => exact ⟨k + 1, by omega, by go_num, below_draws be _⟩
            case measure => simp [intOf]; omega
          · obtain rfl : k = 6 := by omega
            go_wp2_with fail
            refine (sumOf_any _ _ _ _ 2000000000 _ Hdl.out (by omega) (rD6.below be (Nat.le_refl _)) (by omega) Hsm.out).mono ?_
            rw [Hsum.out]
            rintro e w7 ⟨rfl, rfl⟩
            go_wp2
            go_ret
            exact ⟨by simp, q6.trans (be.mono q6.size)⟩
end Go.Proofs.Ytfnpkbfgemcbaaa.fnShareDue

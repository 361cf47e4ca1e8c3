/- Walks: ShareDue of the program and of the reference. -/
import Derived.Test.YtfnpkbfgemcbaaaPa13
namespace Go.Proofs.Ytfnpkbfgemcbaaa
open Go.RowKit

/-- what is due when so many places are worked out -/
def dueTo (a : Int) (xs : List Int) (k : Nat) : List Int := (xs.take k).map (· * a) ++ xs.drop k
theorem dueTo_len (a : Int) (xs : List Int) (k : Nat) : (dueTo a xs k).length = xs.length := by simp [dueTo]; omega
theorem dueTo_all (a : Int) (xs : List Int) : dueTo a xs xs.length = xs.map (· * a) := by simp [dueTo]
theorem dueTo_at (a : Int) (xs : List Int) (k : Nat) (hk : k < xs.length) : a1 (dueTo a xs k) k = a1 xs k := by
  unfold a1 dueTo
  rw [List.getD_eq_getElem?_getD, List.getD_eq_getElem?_getD, List.getElem?_append_right (by simp; omega)]
  simp [show min k xs.length = k by omega]
theorem dueTo_set (a : Int) (xs : List Int) (k : Nat) (hk : k < xs.length) : (dueTo a xs k).set k (a1 xs k * a) = dueTo a xs (k + 1) := by
  unfold dueTo a1
  rw [List.set_append_right _ _ (by simp; omega), List.take_succ_eq_append_getElem hk, List.map_append, List.append_assoc]
  congr 1
  simp only [List.length_map, List.length_take, show min k xs.length = k by omega, Nat.sub_self]
  rw [List.drop_eq_getElem_cons hk, List.set_cons_zero, List.getD_eq_getElem?_getD, List.getElem?_eq_getElem hk]
  rfl
def dueOk (ps : List (Int × Int)) (a : Int) : Bool := partsValid ps && (decide (0 ≤ a) && decide (a ≤ 1000000))
/-- what ShareDue returns -/
def shareDue (ps : List (Int × Int)) (a : Int) : List Int := if dueOk ps a = true then (miles ps).map (· * a) else []
theorem shareDue_le (ps : List (Int × Int)) (a : Int) : (shareDue ps a).length ≤ 1048576 := by unfold shareDue; split <;> simp [miles_len]
theorem mul_in {x a : Int} (h1 : -2000 ≤ x) (h2 : x ≤ 2000) (h3 : 0 ≤ a) (h4 : a ≤ 1000000) : -2000000000 ≤ x * a ∧ x * a ≤ 2000000000 := by
  have e1 := Int.mul_le_mul_of_nonneg_right h1 h3
  have e2 := Int.mul_le_mul_of_nonneg_right h2 h3
  omega

theorem amountValid_t (a : Int) (w : World) (h0 : 0 ≤ a) (h1 : a ≤ 1000000) : Calls Try.prog 56 #[.int .i64 a] w fun e w' => e = .returned (.bool true) ∧ w = w' := by
  go_enter Try.func56, Try.ntmps56
  go_wp2
  go_ret
  exact ⟨rfl, rfl⟩
theorem amountValid_l (a : Int) (w : World) (h0 : a < 0) : Calls Try.prog 56 #[.int .i64 a] w fun e w' => e = .returned (.bool false) ∧ w = w' := by
  go_enter Try.func56, Try.ntmps56
  go_wp2
  go_ret
  exact ⟨rfl, rfl⟩
theorem amountValid_h (a : Int) (w : World) (h0 : 0 ≤ a) (h1 : 1000000 < a) : Calls Try.prog 56 #[.int .i64 a] w fun e w' => e = .returned (.bool false) ∧ w = w' := by
  go_enter Try.func56, Try.ntmps56
  go_wp2
  go_ret
  exact ⟨ret_bool (by simp; omega), rfl⟩
theorem dueOk_no {ps : List (Int × Int)} {a : Int} (h : ¬ (0 ≤ a ∧ a ≤ 1000000)) : dueOk ps a = false := by
  unfold dueOk
  by_cases h0 : 0 ≤ a
  · rw [decide_eq_false (fun h1 => h ⟨h0, h1⟩)]; simp
  · rw [decide_eq_false h0]; simp

set_option maxHeartbeats 400000 in
theorem implShareDue_any (A : Option Addr) (ps : List (Int × Int)) (n cap : Nat) (a : Int) (w : World) (hl : ps.length = n) (hn : n ≤ 1048576) (hr : Rd w A (fl2 ps)) :
    Calls Try.prog 32 #[.slice A n cap, .int .i64 a] w (RetSB w 3 1 (shareDue ps a).length (fl1 (shareDue ps a)) (dueOk ps a)) := by
  cases hv : partsValid ps
  · have Hv := hideIt hv
    clear hv
    have hd : dueOk ps a = false := by rw [dueOk, Hv.out]; rfl
    have hs : shareDue ps a = [] := by rw [shareDue, hd]; rfl
    rw [hd, hs]
    clear hd hs
    go_enter Try.func32, Try.ntmps32
    go_wp2_with fail
    refine (implPartsMiles_any _ _ _ _ _ hl hn hr).mono ?_
    rw [Hv.out]
    rintro e w1 ⟨A1, c1, rfl, ho1, hb1⟩
    clear ho1
    go_wp2_with fail
    go_ret2
    exact ⟨_, _, rfl, own_base (own_empty w1 3 1) hb1.size, hb1.alloc hb1.size _⟩
  · have Hv := hideIt hv
    clear hv
    by_cases hin : 0 ≤ a ∧ a ≤ 1000000
    · have hd : dueOk ps a = true := by rw [dueOk, Hv.out]; simp [hin.1, hin.2]
      have hs : shareDue ps a = (miles ps).map (· * a) := by rw [shareDue, hd]; rfl
      rw [hd, hs, List.length_map, miles_len, ← dueTo_all, miles_len]
      clear hd hs
      obtain ⟨h0, h1⟩ := hin
      go_enter Try.func32, Try.ntmps32
      go_wp2_with fail
      refine (implPartsMiles_any _ _ _ _ _ hl hn hr).mono ?_
      rw [Hv.out, partsMiles_t Hv.out, miles_len]
      rintro e w1 ⟨A1, c1, rfl, ho1, hb1⟩
      obtain ⟨g, rfl, hg0, hg1⟩ := own_some ho1 (by omega)
      have Hml := hideIt (miles_len ps)
      have hmi := miles_in Hv.out
      go_wp2_with fail
      refine (amountValid_t _ _ h0 h1).mono ?_
      rintro e w' ⟨rfl, rfl⟩
      go_wp2
      go_loopw [24] (fun i wr => ∃ (k : Nat), k ≤ 6 ∧ i = .int .i64 k ∧ wr.ownsRow w.heap.size 3 1 (.slice (some ⟨g, 0, none⟩) 6 c1) 6 (fl1 (dueTo a (miles ps) k)) ∧ Below w.heap.size w wr) (fun i _ => 6 - (intOf i).toNat)
      case atStart => exact ⟨0, by omega, rfl, ho1, hb1⟩
      case round =>
        obtain ⟨k, hk, rfl, hrow, hbw⟩ := hrel
        have Hlo := hideIt (dueTo_len a (miles ps) k)
        by_cases hlt : k < 6
        · have hoi : k < (dueTo a (miles ps) k).length := by rw [Hlo.out, Hml.out]; exact hlt
          have hkl : k < (miles ps).length := by rw [Hml.out]; exact hlt
          have hco := row1_a hrow hoi
          rw [dueTo_at a _ k hkl] at hco
          obtain ⟨f1, f2⟩ := hmi k hkl
          obtain ⟨f3, f4⟩ := mul_in f1 f2 h0 h1
          have hfr := fun j => hrow.frozenAt j
          have hsto := row1_store hrow hoi (a1 (miles ps) k * a)
          rw [dueTo_set a _ k hkl] at hsto
          clear hrow hoi hkl hmi ho1
          go_wp2
          go_roundw
          case rel => exact ⟨k + 1, by omega, by go_num, hsto, (hbw.setCell (p := ⟨g, k, none⟩) (by simp; omega) _)⟩
          case measure => simp [intOf]; omega
        · obtain rfl : k = 6 := by omega
          go_wp2
          go_ret2
          exact ⟨_, _, rfl, hrow, hbw⟩
    · have hd := dueOk_no (ps := ps) hin
      have hs : shareDue ps a = [] := by rw [shareDue, hd]; rfl
      rw [hd, hs]
      clear hd hs
      go_enter Try.func32, Try.ntmps32
      go_wp2_with fail
      refine (implPartsMiles_any _ _ _ _ _ hl hn hr).mono ?_
      rw [Hv.out]
      rintro e w1 ⟨A1, c1, rfl, ho1, hb1⟩
      clear ho1
      by_cases h0 : 0 ≤ a
      · go_wp2_with fail
        refine (amountValid_h _ _ h0 (by omega)).mono ?_
        rintro e w' ⟨rfl, rfl⟩
        go_wp2
        go_ret2
        exact ⟨_, _, rfl, own_base (own_empty w1 3 1) hb1.size, hb1.alloc hb1.size _⟩
      · go_wp2_with fail
        refine (amountValid_l _ _ (by omega)).mono ?_
        rintro e w' ⟨rfl, rfl⟩
        go_wp2
        go_ret2
        exact ⟨_, _, rfl, own_base (own_empty w1 3 1) hb1.size, hb1.alloc hb1.size _⟩

set_option maxHeartbeats 400000 in
theorem specShareDue_any (A : Option Addr) (ps : List (Int × Int)) (n cap : Nat) (a : Int) (w : World) (hl : ps.length = n) (hn : n ≤ 1048576) (hr : Rd w A (fl2 ps)) :
    Calls Try.prog 33 #[.slice A n cap, .int .i64 a] w (RetSB w 3 1 (shareDue ps a).length (fl1 (shareDue ps a)) (dueOk ps a)) := by
  cases hv : partsValid ps
  · have Hv := hideIt hv
    clear hv
    have hd : dueOk ps a = false := by rw [dueOk, Hv.out]; rfl
    have hs : shareDue ps a = [] := by rw [shareDue, hd]; rfl
    rw [hd, hs]
    clear hd hs
    go_enter Try.func33, Try.ntmps33
    go_wp2_with fail
    refine (specPartsValid_any _ _ _ _ _ _ hl hn hr Hv.out).mono ?_
    rintro e w1 ⟨rfl, rfl⟩
    go_wp2
    go_ret2
    exact ⟨_, _, rfl, own_empty w 3 1, (Below.refl _ _).alloc (Nat.le_refl _) _⟩
  · have Hv := hideIt hv
    clear hv
    by_cases hin : 0 ≤ a ∧ a ≤ 1000000
    · have hd : dueOk ps a = true := by rw [dueOk, Hv.out]; simp [hin.1, hin.2]
      have hs : shareDue ps a = (miles ps).map (· * a) := by rw [shareDue, hd]; rfl
      rw [hd, hs, List.length_map, miles_len, ← dueTo_all, miles_len]
      clear hd hs
      obtain ⟨h0, h1⟩ := hin
      go_enter Try.func33, Try.ntmps33
      go_wp2_with fail
      refine (specPartsValid_any _ _ _ _ _ _ hl hn hr Hv.out).mono ?_
      rintro e w1 ⟨rfl, rfl⟩
      go_wp2_with fail
      refine (l6In_t _ _ _ _ h0 h1).mono ?_
      rintro e w1 ⟨rfl, rfl⟩
      go_wp2_with fail
      refine (l5Miles_any _ _ _ _ _ hl hr Hv.out).mono ?_
      rintro e w1 ⟨A1, c1, rfl, ho1, hb1⟩
      obtain ⟨g, rfl, hg0, hg1⟩ := own_some ho1 (by omega)
      have Hml := hideIt (miles_len ps)
      have hmi := miles_in Hv.out
      go_wp2
      go_loopw [7] (fun i wr => ∃ (k : Nat), k ≤ 6 ∧ i = .int .i64 k ∧ wr.ownsRow w.heap.size 3 1 (.slice (some ⟨g, 0, none⟩) 6 c1) 6 (fl1 (dueTo a (miles ps) k)) ∧ Below w.heap.size w wr) (fun i _ => 6 - (intOf i).toNat)
      case atStart => exact ⟨0, by omega, rfl, ho1, hb1⟩
      case round =>
        obtain ⟨k, hk, rfl, hrow, hbw⟩ := hrel
        have Hlo := hideIt (dueTo_len a (miles ps) k)
        by_cases hlt : k < 6
        · have hoi : k < (dueTo a (miles ps) k).length := by rw [Hlo.out, Hml.out]; exact hlt
          have hkl : k < (miles ps).length := by rw [Hml.out]; exact hlt
          have hco := row1_a hrow hoi
          rw [dueTo_at a _ k hkl] at hco
          obtain ⟨f1, f2⟩ := hmi k hkl
          obtain ⟨f3, f4⟩ := mul_in f1 f2 h0 h1
          have hfr := fun j => hrow.frozenAt j
          have hsto := row1_store hrow hoi (a1 (miles ps) k * a)
          rw [dueTo_set a _ k hkl] at hsto
          clear hrow hoi hkl hmi ho1
          go_wp2
          go_roundw
          case rel => exact ⟨k + 1, by omega, by go_num, hsto, (hbw.setCell (p := ⟨g, k, none⟩) (by simp; omega) _)⟩
          case measure => simp [intOf]; omega
        · obtain rfl : k = 6 := by omega
          go_wp2
          go_ret2
          exact ⟨_, _, rfl, hrow, hbw⟩
    · have hd := dueOk_no (ps := ps) hin
      have hs : shareDue ps a = [] := by rw [shareDue, hd]; rfl
      rw [hd, hs]
      clear hd hs
      go_enter Try.func33, Try.ntmps33
      go_wp2_with fail
      refine (specPartsValid_any _ _ _ _ _ _ hl hn hr Hv.out).mono ?_
      rintro e w1 ⟨rfl, rfl⟩
      go_wp2_with fail
      refine (l6In_f _ _ _ _ (by omega)).mono ?_
      rintro e w1 ⟨rfl, rfl⟩
      go_wp2
      go_ret2
      exact ⟨_, _, rfl, own_empty w 3 1, (Below.refl _ _).alloc (Nat.le_refl _) _⟩
end Go.Proofs.Ytfnpkbfgemcbaaa

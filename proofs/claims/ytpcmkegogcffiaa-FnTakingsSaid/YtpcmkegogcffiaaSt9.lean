/- Walks: SeatsFree of the reference; SeatsTakings of the program and of the reference. -/
import Derived.Test.YtpcmkegogcffiaaSt8
namespace Go.Proofs.Ytpcmkegogcffiaa
open Go.RowKit

theorem l4Seats_any (ins : Bool) (w : World) : Calls Try.prog 62 #[.bool ins] w fun e w' => e = .returned (.int .i64 (seats ins)) ∧ w = w' := by
  cases ins
  all_goals
    go_enter Try.func62, Try.ntmps62
    go_wp2
    go_ret
    exact ⟨rfl, rfl⟩

set_option maxRecDepth 100000 in
set_option maxHeartbeats 1000000 in
theorem specSeatsFree_any (n : Int) (A : Option Addr) (ls : List (Int × Int × Bool)) (m cap : Nat) (f t : Int) (ins : Bool) (w : World) (hl : ls.length = m) (hm : m ≤ 1048576) (hr : Rd w A (flB ls)) :
    Calls Try.prog 32 #[.int .i64 n, .slice A m cap, .int .i64 f, .int .i64 t, .bool ins] w (Ret w (.int .i64 (seatsFree n ls f t ins))) := by
  cases hv : bValid n ls
  · rw [seatsFree_a hv]
    have Hv := hideIt hv
    clear hv
    go_enter Try.func32, Try.ntmps32
    go_wp2_with fail
    refine (specBookingsValid_any _ _ _ _ _ _ _ hl hm hr Hv.out).mono ?_
    rintro e w1 ⟨rfl, hb1⟩
    go_wp2
    go_ret
    exact ⟨rfl, hb1⟩
  obtain ⟨q1, q2, q3, q4, q5⟩ := bValid_parts hv
  obtain ⟨nn, rfl⟩ := bValid_nat' hv
  cases ho : bOk nn (f, t, false)
  · rw [seatsFree_b ho]
    have ho' := bOk_not ho
    have Hv := hideIt hv
    clear hv ho q4 q5
    by_cases g : f < 0 ∨ (nn : Int) - 1 < f
    · go_enter Try.func32, Try.ntmps32
      go_wp2_with fail
      refine (specBookingsValid_any _ _ _ _ _ _ _ hl hm hr Hv.out).mono ?_
      rintro e w1 ⟨rfl, hb1⟩
      go_wp2_with fail
      refine (l6In_f _ _ _ _ g).mono ?_
      rintro e w' ⟨rfl, rfl⟩
      go_wp2
      go_ret
      exact ⟨rfl, hb1⟩
    · have g1 : 0 ≤ f := by omega
      have g2 : f ≤ (nn : Int) - 1 := by omega
      have g3 : t < f + 1 ∨ (nn : Int) < t := by omega
      clear g ho'
      go_enter Try.func32, Try.ntmps32
      go_wp2_with fail
      refine (specBookingsValid_any _ _ _ _ _ _ _ hl hm hr Hv.out).mono ?_
      rintro e w1 ⟨rfl, hb1⟩
      go_wp2_with fail
      refine (l6In_t _ _ _ _ g1 g2).mono ?_
      rintro e w' ⟨rfl, rfl⟩
      go_wp2_with fail
      refine (l6In_f _ _ _ _ g3).mono ?_
      rintro e w' ⟨rfl, rfl⟩
      go_wp2
      go_ret
      exact ⟨rfl, hb1⟩
  · obtain ⟨o1, o2, o3⟩ := bOk_parts ho
    obtain ⟨f, rfl⟩ := Int.eq_ofNat_of_zero_le o1
    obtain ⟨t, rfl⟩ := Int.eq_ofNat_of_zero_le (show 0 ≤ t by omega)
    rw [seatsFree_t hv ho]
    have Hv := hideIt hv
    have Hl := hideIt hl
    rw [hl] at q3
    clear hv ho q4 q5 hl
    go_enter Try.func32, Try.ntmps32
    go_wp2_with fail
    refine (specBookingsValid_any _ _ _ _ _ _ _ Hl.out hm hr Hv.out).mono ?_
    rintro e w1 ⟨rfl, hb1⟩
    go_wp2_with fail
    refine (l6In_t _ _ _ _ (by omega) (by omega)).mono ?_
    rintro e w' ⟨rfl, rfl⟩
    go_wp2_with fail
    refine (l6In_t _ _ _ _ (by omega) (by omega)).mono ?_
    rintro e w' ⟨rfl, rfl⟩
    go_wp2_with fail
    refine (l4Seats_any _ _).mono ?_
    rintro e w' ⟨rfl, rfl⟩
    obtain ⟨s1, s2⟩ := seats_in ins
    go_wp2
    go_loopw [11, 12] (fun l i wr => ∃ (j : Nat) (x : Int), f + j ≤ t ∧ i = .int .i64 ((f + j : Nat) : Int) ∧ l = .int .i64 x ∧ x = leastTo ls ins f j ∧ Below w.heap.size w wr) (fun _ i _ => t - (intOf i).toNat)
    case atStart => exact ⟨0, _, by omega, rfl, rfl, rfl, hb1⟩
    case round =>
      clear hb1
      obtain ⟨j, x, hj, rfl, rfl, hx, hbw⟩ := hrel
      have hxi := leastTo_in ls ins f j
      rw [← hx, Hl.out] at hxi
      have Hx := hideIt hx
      clear hx
      obtain ⟨leg, hleg⟩ : ∃ leg, f + j = leg := ⟨_, rfl⟩
      have hs : leastTo ls ins f (j + 1) = min x (seats ins - taken ls leg ins) := by rw [leastTo, ← Hx.out, hleg]
      rw [hleg] at hj ⊢
      have Hs := hideIt hs
      have Hleg := hideIt hleg
      clear hs hleg
      by_cases hlt : leg < t
      · have ht := taken_in ls leg ins
        rw [Hl.out] at ht
        go_wp2_with fail
        refine (l4Seats_any _ _).mono ?_
        rintro e w' ⟨rfl, rfl⟩
        go_wp2_with fail
        refine (l4Taken_any _ _ _ _ _ _ _ Hl.out hm (hr.below hbw (Nat.le_refl _))).mono ?_
        rintro e w3 ⟨rfl, rfl⟩
        go_wp2
        go_roundw
        case rel => exact ⟨j + 1, _, by have := Hleg.out; omega, by rw [← Hleg.out]; go_num, rfl, by rw [Hs.out]; split <;> omega, hbw⟩
        case measure => simp [intOf]; omega
      · go_wp2
        go_ret
        have hjt : j = t - f := by have := Hleg.out; omega
        exact ⟨ret_int (by rw [Hx.out, hjt]), hbw⟩

/-- one leg's takings -/
def legDue (ls : List (Int × Int × Bool)) (mi : List Int) (x y : Int) (k : Nat) : Int := a1 mi k * (x * taken ls k true + y * taken ls k false)
/-- the takings of the first legs -/
def dueOf (ls : List (Int × Int × Bool)) (mi : List Int) (x y : Int) : Nat → Int
  | 0 => 0
  | k + 1 => dueOf ls mi x y k + legDue ls mi x y k
/-- the legs have miles -/
def mileOk (x : Int) : Bool := decide (1 ≤ x) && decide (x ≤ 99)
def fareOk (x y : Int) : Bool := decide (0 ≤ x) && decide (x ≤ 100) && (decide (0 ≤ y) && decide (y ≤ 100))
def seatsTakings (n : Int) (ls : List (Int × Int × Bool)) (mi : List Int) (x y : Int) : Int :=
  if bValid n ls = true ∧ (mi.length : Int) = n ∧ fareOk x y = true ∧ mi.all mileOk = true then dueOf ls mi x y mi.length else -1
theorem seatsTakings_no {n : Int} {ls : List (Int × Int × Bool)} {mi : List Int} {x y : Int} (h : ¬ (bValid n ls = true ∧ (mi.length : Int) = n ∧ fareOk x y = true ∧ mi.all mileOk = true)) : seatsTakings n ls mi x y = -1 := by rw [seatsTakings, if_neg h]
theorem mulB {a b A B : Int} (h0 : 0 ≤ a) (h1 : a ≤ A) (h2 : 0 ≤ b) (h3 : b ≤ B) : 0 ≤ a * b ∧ a * b ≤ A * B := by
  have e1 := Int.mul_nonneg h0 h2
  have e2 := Int.mul_le_mul h1 h3 h2 (by omega)
  exact ⟨e1, e2⟩
theorem legDue_in {ls : List (Int × Int × Bool)} {mi : List Int} {x y : Int} {k : Nat} (hl : ls.length ≤ 16) (h1 : 1 ≤ a1 mi k) (h2 : a1 mi k ≤ 99) (hx : 0 ≤ x) (hx2 : x ≤ 100) (hy : 0 ≤ y) (hy2 : y ≤ 100) :
    (0 ≤ x * taken ls k true ∧ x * taken ls k true ≤ 1600) ∧ (0 ≤ y * taken ls k false ∧ y * taken ls k false ≤ 1600) ∧ 0 ≤ legDue ls mi x y k ∧ legDue ls mi x y k ≤ 316800 := by
  have t1 := taken_in ls k true
  have t2 := taken_in ls k false
  have m1 := mulB hx hx2 t1.1 (show taken ls k true ≤ 16 by omega)
  have m2 := mulB hy hy2 t2.1 (show taken ls k false ≤ 16 by omega)
  have m3 := mulB (show 0 ≤ a1 mi k by omega) h2 (show 0 ≤ x * taken ls k true + y * taken ls k false by omega) (show x * taken ls k true + y * taken ls k false ≤ 3200 by omega)
  exact ⟨⟨m1.1, by omega⟩, ⟨m2.1, by omega⟩, m3.1, by unfold legDue; omega⟩
theorem dueOf_in {ls : List (Int × Int × Bool)} {mi : List Int} {x y : Int} (hl : ls.length ≤ 16) (hx : 0 ≤ x) (hx2 : x ≤ 100) (hy : 0 ≤ y) (hy2 : y ≤ 100) :
    ∀ k, (∀ j, j < k → 1 ≤ a1 mi j ∧ a1 mi j ≤ 99) → 0 ≤ dueOf ls mi x y k ∧ dueOf ls mi x y k ≤ 316800 * k := by
  intro k
  induction k with
  | zero => intro _; simp [dueOf]
  | succ k ih =>
    intro h
    have h1 := ih (fun j hj => h j (by omega))
    have h2 := h k (by omega)
    have h3 := (legDue_in (k := k) hl h2.1 h2.2 hx hx2 hy hy2).2.2
    simp only [dueOf]
    omega
theorem mileOk_at {mi : List Int} {k : Nat} (h : mileOk (mi.getD k 0) = true) : 1 ≤ a1 mi k ∧ a1 mi k ≤ 99 := by
  simp only [mileOk, Bool.and_eq_true, decide_eq_true_eq] at h; exact h
theorem mileOk_not {mi : List Int} {k : Nat} (h : mileOk (mi.getD k 0) = false) : a1 mi k < 1 ∨ 99 < a1 mi k := by
  simp only [mileOk, Bool.and_eq_false_iff, decide_eq_false_iff_not] at h
  unfold a1; omega
end Go.Proofs.Ytpcmkegogcffiaa

/- Walks: slices.Sort of at most twelve ints (it goes by insertion). -/
import Derived.Test.YtdnjeahbnidefaaProg
import Derived.Test.YtdnjeahbnidefaaGA
import Derived.BigRegion
import Derived.BigQuiet
import Derived.Deep.QuietTactic
import Derived.IntWalk
namespace Go.Proofs.Ytdnjeahbnidefaa
open Go.RowKit

/-- ascending up to k -/
def AscTo (ys : List Int) (k : Nat) : Prop := ∀ i j, i < j → j < k → a1 ys i ≤ a1 ys j
/-- ascending up to k, k too, but for what stands at j -/
def Almost (ys : List Int) (j k : Nat) : Prop := ∀ a b, a < b → b ≤ k → b ≠ j → a1 ys a ≤ a1 ys b
theorem almost_start {ys : List Int} {k : Nat} (h : AscTo ys k) : Almost ys k k := fun a b h1 h2 h3 => h a b h1 (by omega)
theorem almost_zero {ys : List Int} {k : Nat} (h : Almost ys 0 k) : AscTo ys (k + 1) := fun a b h1 h2 => h a b h1 (by omega) (by omega)
theorem almost_end {ys : List Int} {p k : Nat} (h : Almost ys (p + 1) k) (hle : a1 ys p ≤ a1 ys (p + 1)) : AscTo ys (k + 1) := fun a b h1 h2 => by
  by_cases hb : b = p + 1
  · subst hb
    by_cases ha : a = p
    · subst ha; exact hle
    · exact Int.le_trans (h a p (by omega) (by omega) (by omega)) hle
  · exact h a b h1 (by omega) hb
/-- two neighbors exchanged -/
def swapAt (ys : List Int) (p : Nat) : List Int := (ys.set (p + 1) (a1 ys p)).set p (a1 ys (p + 1))
theorem swapAt_len (ys : List Int) (p : Nat) : (swapAt ys p).length = ys.length := by simp [swapAt]
theorem swapAt_a (ys : List Int) (p i : Nat) (h : p + 1 < ys.length) : a1 (swapAt ys p) i = if i = p then a1 ys (p + 1) else if i = p + 1 then a1 ys p else a1 ys i := by
  unfold a1 swapAt
  simp only [List.getD_eq_getElem?_getD]
  by_cases h1 : i = p
  · subst h1
    rw [if_pos rfl, List.getElem?_set_self (by simp; omega)]; simp [a1]
  · rw [if_neg h1, List.getElem?_set_ne (by omega)]
    by_cases h2 : i = p + 1
    · subst h2
      rw [if_pos rfl, List.getElem?_set_self h]; simp [a1]
    · rw [if_neg h2, List.getElem?_set_ne (by omega)]
theorem swapAt_perm (ys : List Int) (p : Nat) (h : p + 1 < ys.length) : (swapAt ys p).Perm ys := by
  have := @List.set_set_perm _ ys (p + 1) p h (by omega)
  have e1 : a1 ys p = ys[p] := by simp [a1, show p < ys.length by omega]
  have e2 : a1 ys (p + 1) = ys[p + 1] := by simp [a1, h]
  unfold swapAt
  rw [e1, e2]
  exact this
theorem almost_swap {ys : List Int} {p k : Nat} (h : Almost ys (p + 1) k) (hlt : a1 ys (p + 1) < a1 ys p) (hp : p + 1 ≤ k) (hl : k < ys.length) : Almost (swapAt ys p) p k := fun a b h1 h2 h3 => by
  rw [swapAt_a ys p a (by omega), swapAt_a ys p b (by omega)]
  rw [if_neg h3]
  by_cases hb : b = p + 1
  · rw [if_pos hb]
    by_cases ha : a = p
    · rw [if_pos ha]; omega
    · rw [if_neg ha, if_neg (by omega)]
      exact h a p (by omega) (by omega) (by omega)
  · rw [if_neg hb]
    by_cases ha : a = p
    · rw [if_pos ha]; exact h (p + 1) b (by omega) h2 hb
    · rw [if_neg ha]
      by_cases ha2 : a = p + 1
      · rw [if_pos ha2]; exact h p b (by omega) h2 hb
      · rw [if_neg ha2]; exact h a b h1 h2 hb
/-- what a sorted slice is -/
def SortPost (w : World) (base t : Nat) (A : Option Addr) (n cap : Nat) (xs : List Int) (e : Ending) (w' : World) : Prop :=
  e = .returned (.tuple #[]) ∧ ∃ ys : List Int, ys.Perm xs ∧ AscTo ys n ∧ w'.ownsRow base t 1 (.slice A n cap) n (fl1 ys) ∧ w.grownBy w' (Value.slice A n cap).ownBlock
/-- two lists of the same numbers, both ascending, are one -/
theorem asc_eq {xs ys : List Int} (hp : xs.Perm ys) (hx : AscTo xs xs.length) (hy : AscTo ys ys.length) : xs = ys := by
  apply List.Perm.eq_of_pairwise (le := fun a b => a ≤ b) (fun a b _ _ h1 h2 => Int.le_antisymm h1 h2) _ _ hp
  · rw [List.pairwise_iff_getElem]
    intro i j hi hj hij
    have := hx i j hij hj
    simpa [a1, hi, hj] using this
  · rw [List.pairwise_iff_getElem]
    intro i j hi hj hij
    have := hy i j hij hj
    simpa [a1, hi, hj] using this

theorem isNaN_any (a : Int) (w : World) : Calls Try.prog 88 #[.int .i64 a] w fun e w' => e = .returned (.bool false) ∧ w = w' := by
  go_enter Try.func88, Try.ntmps88
  go_wp2
  go_ret
  exact ⟨ret_bool (by simp), rfl⟩
theorem less_any (a b : Int) (w : World) : Calls Try.prog 75 #[.int .i64 a, .int .i64 b] w fun e w' => e = .returned (.bool (decide (a < b))) ∧ w' = w := by
  go_enter Try.func75, Try.ntmps75
  go_wp2_with fail
  refine (isNaN_any _ _).mono ?_
  rintro e w' ⟨rfl, rfl⟩
  go_wp2
  go_ret
  exact ⟨rfl, rfl⟩
theorem only_drewN {a w : World} {row : Option Nat} (h : a.grownBy w row) (n : Nat) : a.grownBy (w.drewN n) row := ⟨h.os, h.tape, h.output, h.size, h.block⟩
theorem ownD {w : World} {base t size n : Nat} {v : Value} {xs : List Value} (h : w.ownsRow base t size v n xs) (k : Nat) : (w.drewN k).ownsRow base t size v n xs := h

set_option maxRecDepth 100000 in
set_option maxHeartbeats 4000000 in
theorem insSort_any (A : Option Addr) (xs : List Int) (n base cap : Nat) (w : World) (hl : xs.length = n) (hn : n ≤ 1048576)
    (hown : w.ownsRow base 3 1 (.slice A n cap) n (fl1 xs)) :
    Calls Try.prog 69 #[.slice A n cap, .int .i64 0, .int .i64 n] w (SortPost w base 3 A n cap xs) := by
  have Hl := hideIt hl
  clear hl
  go_enter Try.func69, Try.ntmps69
  go_wp2
  go_loopw [6] (fun i wr => ∃ (k : Nat) (ys : List Int), i = .int .i64 k ∧ 1 ≤ k ∧ (k ≤ n ∨ n = 0 ∧ k = 1) ∧ ys.Perm xs ∧ AscTo ys k ∧ wr.ownsRow base 3 1 (.slice A n cap) n (fl1 ys) ∧ w.grownBy wr (Value.slice A n cap).ownBlock) (fun i _ => n - (intOf i).toNat)
  case atStart => exact ⟨1, xs, rfl, by omega, by omega, List.Perm.refl _, fun i j h1 h2 => by omega, hown, World.grownBy.refl _ _⟩
  case round =>
    obtain ⟨k, ys, rfl, k1, hk, hperm, hasc, hrow, hgr⟩ := hrel
    clear hown
    by_cases hlt : k < n
    · have Hperm := hideIt hperm
      have Hasc := hideIt hasc
      clear hperm hasc
      go_wp2
      go_loopw [7] (fun i wr => ∃ (j : Nat) (ys : List Int), i = .int .i64 j ∧ j ≤ k ∧ ys.Perm xs ∧ Almost ys j k ∧ wr.ownsRow base 3 1 (.slice A n cap) n (fl1 ys) ∧ w.grownBy wr (Value.slice A n cap).ownBlock) (fun i _ => (intOf i).toNat)
      case atStart => exact ⟨k, ys, rfl, Nat.le_refl _, Hperm.out, almost_start Hasc.out, hrow, hgr⟩
      case round =>
        clear hrow hgr Hperm Hasc
        obtain ⟨j, ys, rfl, hj, hperm, halm, hrow, hgr⟩ := hrel
        have Hperm := hideIt hperm
        have Halm := hideIt halm
        have Hly := hideIt (hperm.length_eq.trans Hl.out)
        clear hperm halm
        by_cases hj0 : j = 0
        · subst hj0
          go_wp2
          go_quiet (fail)
          go_wp2
          go_roundw
          case rel => exact ⟨k + 1, ys, by go_num, by omega, by omega, Hperm.out, almost_zero Halm.out, ownD hrow _, only_drewN hgr _⟩
          case measure => simp [intOf]; omega
        · obtain ⟨p, rfl⟩ : ∃ p, j = p + 1 := ⟨j - 1, by omega⟩
          obtain ⟨g, rfl, hbg, hlg⟩ := own_some hrow (by omega)
          have hxp := row1_a hrow (k := p) (by rw [Hly.out]; omega)
          have hxj := row1_a hrow (k := p + 1) (by rw [Hly.out]; omega)
          have hw := IntWalk.i64_in (p : Int) (by omega)
          have hpn : (p : Int) < (n : Int) := by omega
          have hpn2 : (p : Int) + 1 < (n : Int) := by omega
          by_cases hc : a1 ys (p + 1) < a1 ys p
          · have hcd : decide (a1 ys (p + 1) < a1 ys p) = true := by simpa using hc
            have hfr := fun j => hrow.frozenAt j
            have hst := row1_store (row1_store hrow (k := p + 1) (by rw [Hly.out]; omega) (a1 ys p)) (k := p) (by rw [List.length_set, Hly.out]; omega) (a1 ys (p + 1))
            have hst' : (((wr.setCell ⟨g, p + 1, none⟩ (.int .i64 (a1 ys p))).setCell ⟨g, p, none⟩ (.int .i64 (a1 ys (p + 1))))).ownsRow base 3 1 (.slice (some ⟨g, 0, none⟩) n cap) n (fl1 (swapAt ys p)) := hst
            have Hsw := hideIt (swapAt_perm ys p (by rw [Hly.out]; omega))
            have Halm2 := hideIt (almost_swap Halm.out hc hj (by rw [Hly.out]; omega))
            clear hst hrow
            go_wp2
            go_quiet ((go_at_call 75; exact Calls.quiet_of_same (less_any _ _ _)))
            go_wp2
            go_region
            go_wp2
            go_roundw
            case rel => exact ⟨p, swapAt ys p, by go_num, by omega, Hsw.out.trans Hperm.out, Halm2.out, hst', only_drewN (only_setCell (p := ⟨g, p, none⟩) (only_setCell (p := ⟨g, p + 1, none⟩) hgr (.inl rfl) _) (.inl rfl) _) _⟩
            case measure => simp [intOf]
          · have hcd : decide (a1 ys (p + 1) < a1 ys p) = false := by simpa using hc
            have Hend := hideIt (almost_end Halm.out (by omega))
            go_wp2
            go_quiet ((go_at_call 75; exact Calls.quiet_of_same (less_any _ _ _)))
            go_wp2
            go_roundw
            case rel => exact ⟨k + 1, ys, by go_num, by omega, by omega, Hperm.out, Hend.out, ownD hrow _, only_drewN hgr _⟩
            case measure => simp [intOf]; omega
    · go_wp2
      go_end0
      obtain rfl | ⟨rfl, rfl⟩ : k = n ∨ n = 0 ∧ k = 1 := by omega
      · exact ⟨rfl, ys, hperm, hasc, hrow, hgr⟩
      · exact ⟨rfl, ys, hperm, fun i j h1 h2 => by omega, hrow, hgr⟩

set_option maxRecDepth 100000 in
theorem len64_any (n : Nat) (w : World) (hn : n ≤ 12) : Calls Try.prog 79 #[.int .u64 n] w fun e w' => (∃ v : Int, e = .returned (.int .i64 v)) ∧ w = w' := by
  obtain h : n = 0 ∨ n = 1 ∨ n = 2 ∨ n = 3 ∨ n = 4 ∨ n = 5 ∨ n = 6 ∨ n = 7 ∨ n = 8 ∨ n = 9 ∨ n = 10 ∨ n = 11 ∨ n = 12 := by omega
  rcases h with rfl | rfl | rfl | rfl | rfl | rfl | rfl | rfl | rfl | rfl | rfl | rfl | rfl
  all_goals
    go_enter Try.func79, Try.ntmps79
    go_wp2
    go_ret
    exact ⟨⟨_, rfl⟩, rfl⟩
theorem bitsLen_any (n : Nat) (w : World) (hn : n ≤ 12) : Calls Try.prog 61 #[.int .u64 n] w fun e w' => (∃ v : Int, e = .returned (.int .i64 v)) ∧ w = w' := by
  go_enter Try.func61, Try.ntmps61
  go_wp2_with fail
  refine (len64_any _ _ hn).mono ?_
  rintro e w' ⟨⟨v, rfl⟩, rfl⟩
  go_wp2
  go_ret
  exact ⟨⟨_, rfl⟩, rfl⟩

set_option maxRecDepth 100000 in
set_option maxHeartbeats 4000000 in
theorem pdq_any (A : Option Addr) (xs : List Int) (n base cap : Nat) (lim : Int) (w : World) (hl : xs.length = n) (hn : n ≤ 12)
    (hown : w.ownsRow base 3 1 (.slice A n cap) n (fl1 xs)) :
    Calls Try.prog 60 #[.slice A n cap, .int .i64 0, .int .i64 n, .int .i64 lim] w (SortPost w base 3 A n cap xs) := by
  have Hl := hideIt hl
  clear hl
  go_enter Try.func60, Try.ntmps60
  go_wp2
  go_loopw [1, 2] (fun a b wr => a = .int .i64 0 ∧ b = .int .i64 n ∧ wr = w) (fun _ _ _ => 0)
  case atStart => exact ⟨rfl, rfl, rfl⟩
  case round =>
    obtain ⟨rfl, rfl, rfl⟩ := hrel
    go_wp2_with fail
    refine (insSort_any _ _ _ _ _ _ Hl.out (by omega) hown).mono ?_
    rintro e w' ⟨rfl, hpost⟩
    have Hpost := hideIt hpost
    clear hpost
    go_wp2
    go_end0
    exact ⟨rfl, Hpost.out⟩

set_option maxRecDepth 100000 in
set_option maxHeartbeats 4000000 in
theorem sort_any (A : Option Addr) (xs : List Int) (n base cap : Nat) (w : World) (hl : xs.length = n) (hn : n ≤ 12)
    (hown : w.ownsRow base 3 1 (.slice A n cap) n (fl1 xs)) :
    Calls Try.prog 41 #[.slice A n cap] w (SortPost w base 3 A n cap xs) := by
  have Hl := hideIt hl
  clear hl
  go_enter Try.func41, Try.ntmps41
  go_wp2_with fail
  refine (bitsLen_any _ _ hn).mono ?_
  rintro e w' ⟨⟨v, rfl⟩, rfl⟩
  go_wp2_with fail
  refine (pdq_any _ _ _ _ _ _ _ Hl.out hn hown).mono ?_
  rintro e w' ⟨rfl, hpost⟩
  have Hpost := hideIt hpost
  clear hpost
  go_wp2
  go_end0
  exact ⟨rfl, Hpost.out⟩
end Go.Proofs.Ytdnjeahbnidefaa

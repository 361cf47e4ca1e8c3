/- Walks: SeatsCancel, of the program and of the reference. -/
import Derived.Test.YtpcmkegogcffiaaSt11
import Derived.Test.YtpcmkegogcffiaaStep
namespace Go.Proofs.Ytpcmkegogcffiaa
open Go.RowKit

/-- an index of a list -/
def inAt (ls : List (Int × Int × Bool)) (k : Int) : Bool := decide (0 ≤ k) && decide (k < ls.length)
def cancelOk (n : Int) (ls : List (Int × Int × Bool)) (k : Int) : Bool := bValid n ls && inAt ls k
/-- the list without the element with index k -/
def without (ls : List (Int × Int × Bool)) (k : Nat) : List (Int × Int × Bool) := ls.take k ++ ls.drop (k + 1)
def seatsCancel (n : Int) (ls : List (Int × Int × Bool)) (k : Int) : List (Int × Int × Bool) := if cancelOk n ls k = true then without ls k.toNat else []
theorem seatsCancel_f {n : Int} {ls : List (Int × Int × Bool)} {k : Int} (h : cancelOk n ls k = false) : seatsCancel n ls k = [] := by rw [seatsCancel, h]; rfl
theorem seatsCancel_t {n : Int} {ls : List (Int × Int × Bool)} {k : Int} (h : cancelOk n ls k = true) : seatsCancel n ls k = without ls k.toNat := by rw [seatsCancel, h]; rfl
theorem without_len (ls : List (Int × Int × Bool)) (k m : Nat) (hl : ls.length = m) (h : k < m) : (without ls k).length = k + (m - (k + 1)) := by unfold without; simp; omega
theorem seatsCancel_le (n : Int) (ls : List (Int × Int × Bool)) (k : Int) : (seatsCancel n ls k).length ≤ 1048576 := by
  unfold seatsCancel; split
  · have h := ‹cancelOk n ls k = true›
    simp only [cancelOk, Bool.and_eq_true] at h
    have := (bValid_parts h.1).2.2.1
    unfold without
    simp; omega
  · simp
theorem flB_take (ls : List (Int × Int × Bool)) (k : Nat) : ∀ (i : Nat) (u : Value), (flB (ls.take k))[i]? = some u → (flB ls)[i]? = some u := by
  intro i u h
  have e : flB ls = flB (ls.take k) ++ flB (ls.drop k) := by rw [flB, flB, flB, ← List.flatMap_append, List.take_append_drop]
  rw [e, List.getElem?_append_left (List.getElem?_eq_some_iff.1 h).1]
  exact h
theorem flB_drop (ls : List (Int × Int × Bool)) (k : Nat) (hk : k ≤ ls.length) : ∀ (i : Nat) (u : Value), (flB (ls.drop k))[i]? = some u → (flB ls)[k * 3 + i]? = some u := by
  intro i u h
  have e : flB ls = flB (ls.take k) ++ flB (ls.drop k) := by rw [flB, flB, flB, ← List.flatMap_append, List.take_append_drop]
  have hl : (flB (ls.take k)).length = k * 3 := by rw [flB_len, List.length_take]; omega
  rw [e, List.getElem?_append_right (by omega), hl, Nat.add_sub_cancel_left]
  exact h
theorem Rd.takeB {w : World} {A : Option Addr} {ls : List (Int × Int × Bool)} (h : Rd w A (flB ls)) (k : Nat) : Rd w A (flB (ls.take k)) := fun hn => by
  obtain ⟨b, off, rfl, hlt, hc⟩ := h (fun e => hn (by
    have e1 := congrArg List.length e
    rw [flB_len] at e1
    have : ls = [] := List.eq_nil_of_length_eq_zero (by simp at e1; omega)
    subst this
    simp [flB]))
  exact ⟨b, off, rfl, hlt, fun i u hu => hc i u (flB_take ls k i u hu)⟩
theorem Rd.dropB {w : World} {b off : Nat} {ls : List (Int × Int × Bool)} (h : Rd w (some ⟨b, off, none⟩) (flB ls)) (k : Nat) (hk : k ≤ ls.length) : Rd w (some ⟨b, off + k * 3, none⟩) (flB (ls.drop k)) := fun hn => by
  obtain ⟨b', off', e, hlt, hc⟩ := h (fun e => hn (by
    have e1 := congrArg List.length e
    rw [flB_len] at e1
    have : ls = [] := List.eq_nil_of_length_eq_zero (by simp at e1; omega)
    subst this
    simp [flB]))
  cases e
  exact ⟨b, off + k * 3, rfl, hlt, fun i u hu => by rw [Nat.add_assoc]; exact hc _ _ (flB_drop ls k hk i u hu)⟩
/-- where a slice from k on lies -/
def dropAt (b off k cap : Nat) : Addr := if k = cap then ⟨b, off, none⟩ else ⟨b, off + k * 3, none⟩
theorem rd_dropAt {w : World} {b off : Nat} {ls : List (Int × Int × Bool)} (h : Rd w (some ⟨b, off, none⟩) (flB ls)) (k cap : Nat) (hk : k ≤ ls.length) (hc : ls.length ≤ cap) : Rd w (some (dropAt b off k cap)) (flB (ls.drop k)) := by
  unfold dropAt
  split
  · rw [List.drop_eq_nil_of_le (by omega)]; exact Rd.nil _ _
  · exact h.dropB k hk

set_option maxRecDepth 100000 in
set_option maxHeartbeats 1000000 in
theorem implSeatsCancel_any (n : Int) (b off : Nat) (ls : List (Int × Int × Bool)) (m cap : Nat) (k : Int) (w : World) (hl : ls.length = m) (hm : m ≤ 1048576) (hr : Rd w (some ⟨b, off, none⟩) (flB ls)) (hc : m ≤ cap) :
    Calls Try.prog 22 #[.int .i64 n, .slice (some ⟨b, off, none⟩) m cap, .int .i64 k] w (RetSB w 40 3 (seatsCancel n ls k).length (flB (seatsCancel n ls k)) (cancelOk n ls k)) := by
  cases hv : bValid n ls
  · have Hv := hideIt hv
    clear hv
    have hj : cancelOk n ls k = false := by rw [cancelOk, Hv.out]; rfl
    rw [seatsCancel_f hj, hj]
    clear hj
    go_enter Try.func22, Try.ntmps22
    go_wp2_with fail
    refine (implBookingsValid_any _ _ _ _ _ _ _ hl hm hr Hv.out).mono ?_
    rintro e w1 ⟨rfl, hb1⟩
    go_wp2
    go_ret2
    exact ⟨_, _, rfl, own_base (own_empty w1 40 3) hb1.size, hb1.alloc hb1.size _⟩
  have m16 := (bValid_parts hv).2.2.1
  rw [hl] at m16
  have Hv := hideIt hv
  clear hv
  by_cases hk : 0 ≤ k ∧ k < m
  rotate_left
  · have hj : cancelOk n ls k = false := by
      rw [cancelOk, Hv.out, inAt, hl]
      by_cases h0 : 0 ≤ k
      · rw [decide_eq_false (p := k < (m : Int)) (fun h => hk ⟨h0, h⟩)]; simp
      · rw [decide_eq_false h0]; simp
    rw [seatsCancel_f hj, hj]
    clear hj
    by_cases h0 : k < 0
    · clear hk
      go_enter Try.func22, Try.ntmps22
      go_wp2_with fail
      refine (implBookingsValid_any _ _ _ _ _ _ _ hl hm hr Hv.out).mono ?_
      rintro e w1 ⟨rfl, hb1⟩
      go_wp2
      go_ret2
      exact ⟨_, _, rfl, own_base (own_empty w1 40 3) hb1.size, hb1.alloc hb1.size _⟩
    · have h1 : (m : Int) ≤ k := by omega
      have h2 : 0 ≤ k := by omega
      clear hk h0
      go_enter Try.func22, Try.ntmps22
      go_wp2_with fail
      refine (implBookingsValid_any _ _ _ _ _ _ _ hl hm hr Hv.out).mono ?_
      rintro e w1 ⟨rfl, hb1⟩
      go_wp2
      go_ret2
      exact ⟨_, _, rfl, own_base (own_empty w1 40 3) hb1.size, hb1.alloc hb1.size _⟩
  obtain ⟨k0, k1⟩ := hk
  obtain ⟨k, rfl⟩ := Int.eq_ofNat_of_zero_le k0
  have k2 : k < m := by omega
  have hj : cancelOk n ls k = true := by rw [cancelOk, Hv.out, inAt, hl, decide_eq_true k0, decide_eq_true k1]; rfl
  rw [seatsCancel_t hj, hj, Int.toNat_natCast, without_len ls k m hl k2]
  have ht := hr.takeB k
  have hd := rd_dropAt hr (k + 1) cap (by omega) (by omega)
  have Hlt := hideIt (show (ls.take k).length = k by simp; omega)
  have Hld := hideIt (show (ls.drop (k + 1)).length = m - (k + 1) by simp; omega)
  have Hl := hideIt hl
  clear hj hl
  go_enter Try.func22, Try.ntmps22
  go_wp2_with fail
  refine (implBookingsValid_any _ _ _ _ _ _ _ Hl.out hm hr Hv.out).mono ?_
  rintro e w1 ⟨rfl, hb1⟩
  have hwr : IntKind.i64.wrap ((k : Int) + 1) = (k : Int) + 1 := IntWalk.i64_in _ (by omega)
  have g1 : (k : Int) ≤ (cap : Int) := by omega
  have g2 : (0 : Int) ≤ (k : Int) + 1 := by omega
  have g3 : (k : Int) + 1 ≤ (m : Int) := by omega
  have g4 : ((k : Int) + 1).toNat = k + 1 := by omega
  have g5 : ¬ cap = 0 := by omega
  have ht1 := ht.below hb1 (Nat.le_refl _)
  by_cases hck : cap = k + 1
  · obtain rfl : m = k + 1 := by omega
    subst hck
    have g6 : (k : Int) ≤ (k : Int) + 1 := by omega
    have Hnil := hideIt (show without ls k = ls.take k ++ [] by rw [without, List.drop_eq_nil_of_le (by rw [Hl.out]; omega)])
    have hw := hideIt (show k + (k + 1 - (k + 1)) = k + 0 by omega)
    clear hd hc
    go_wp2_with fail
    go_region_held3 (fun w' => Below w.heap.size w w')
      (first | assumption | exact hb1.drew | exact B3 | (refine Below.alloc (by assumption) (Below.size (by assumption)) _))
      (first
        | (go_at_call 58
           refine (concatBooking_any _ ⟨b, off, none⟩ ⟨b, off, none⟩ (ls.take k) [] k 0 (k + 1) 0 _ Hlt.out rfl (by omega) (by omega) ((ht1.alloc _).drew) (Rd.nil _ _) (by simp) (by simp) (by simp)).mono ?_
           rintro e w3 ⟨A3, c3, rfl, ho3, hb3⟩
           have B3 := below_from ((hb1.alloc hb1.size _).drew) hb3))
    go_wp2
    go_ret2
    rw [Hnil.out, hw.out]
    exact ⟨_, _, rfl, own_base ho3 ((hb1.alloc hb1.size _).drew).size, B3⟩
  · have hd1 := hd.below hb1 (Nat.le_refl _)
    rw [dropAt, if_neg (fun h => hck h.symm)] at hd1
    clear hd
    go_wp2_with fail
    go_region_held3 (fun w' => Below w.heap.size w w')
      (first | assumption | exact hb1.drew | exact B3 | (refine Below.alloc (by assumption) (Below.size (by assumption)) _))
      (first
        | (go_at_call 58
           refine (concatBooking_any _ ⟨b, off, none⟩ ⟨b, off + (k + 1) * 3, none⟩ (ls.take k) (ls.drop (k + 1)) k (m - (k + 1)) cap (cap - (k + 1)) _ Hlt.out Hld.out (by omega) (by omega) ((ht1.alloc _).drew) ((hd1.alloc _).drew) (by simp) (by simp) (by simp)).mono ?_
           rintro e w3 ⟨A3, c3, rfl, ho3, hb3⟩
           have B3 := below_from ((hb1.alloc hb1.size _).drew) hb3))
    go_wp2
    go_ret2
    exact ⟨_, _, rfl, own_base ho3 ((hb1.alloc hb1.size _).drew).size, B3⟩
theorem implSeatsCancel_g (n : Int) (g : Nat) (ls : List (Int × Int × Bool)) (m cap : Nat) (k : Int) (w : World) (hl : ls.length = m) (hm : m ≤ 1048576) (hr : Rd w (some ⟨g, 0, none⟩) (flB ls)) (hc : m ≤ cap) :
    Calls Try.prog 22 #[.int .i64 n, .slice (some ⟨g, 0, none⟩) m cap, .int .i64 k] w (RetSB w 40 3 (seatsCancel n ls k).length (flB (seatsCancel n ls k)) (cancelOk n ls k)) := implSeatsCancel_any n g 0 ls m cap k w hl hm hr hc
end Go.Proofs.Ytpcmkegogcffiaa

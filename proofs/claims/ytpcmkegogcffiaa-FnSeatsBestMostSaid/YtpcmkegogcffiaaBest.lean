/- The plain functions of the best bookings for one seat: what both texts compute. -/
import Derived.Test.YtpcmkegogcffiaaSeat
import Derived.Test.YtpcmkegogcffiaaSort
namespace Go.Proofs.Ytpcmkegogcffiaa
open Go.RowKit

/-- of the first k bookings that begin at a stop or behind it the one that ends first -/
def pickTo (ls : List (Int × Int × Bool)) (p : Int) : Nat → Int
  | 0 => -1
  | k + 1 => if p ≤ aB ls k ∧ (pickTo ls p k < 0 ∨ bB ls k < bB ls (pickTo ls p k).toNat) then k else pickTo ls p k
theorem pickTo_spec (ls : List (Int × Int × Bool)) (p : Int) (k : Nat) : (pickTo ls p k = -1 ∧ ∀ j, j < k → aB ls j < p) ∨
    ∃ q : Nat, pickTo ls p k = q ∧ q < k ∧ p ≤ aB ls q ∧ (∀ j, j < k → p ≤ aB ls j → bB ls q ≤ bB ls j) ∧ (∀ j, j < q → p ≤ aB ls j → bB ls q < bB ls j) := by
  induction k with
  | zero => exact .inl ⟨rfl, fun j h => by omega⟩
  | succ k ih =>
    rcases ih with ⟨h1, h2⟩ | ⟨q, h1, h2, h3, h4, h5⟩
    · by_cases h : p ≤ aB ls k
      · refine .inr ⟨k, by rw [pickTo, h1, if_pos ⟨h, .inl (by omega)⟩], by omega, h, fun j hj hp => ?_, fun j hj hp => ?_⟩
        · by_cases e : j = k
          · subst e; omega
          · have := h2 j (by omega); omega
        · have := h2 j hj; omega
      · refine .inl ⟨by rw [pickTo, if_neg (fun c => h c.1), h1], fun j hj => ?_⟩
        by_cases e : j = k
        · subst e; omega
        · exact h2 j (by omega)
    · by_cases h : p ≤ aB ls k ∧ bB ls k < bB ls q
      · refine .inr ⟨k, by rw [pickTo, h1, if_pos ⟨h.1, .inr (by simpa using h.2)⟩], by omega, h.1, fun j hj hp => ?_, fun j hj hp => ?_⟩
        · by_cases e : j = k
          · subst e; omega
          · have := h4 j (by omega) hp; omega
        · have := h4 j hj hp; omega
      · refine .inr ⟨q, by rw [pickTo, h1, if_neg (fun c => h ⟨c.1, (c.2.resolve_left (by omega))⟩)], by omega, h3, fun j hj hp => ?_, h5⟩
        by_cases e : j = k
        · subst e
          have := fun c => h ⟨hp, c⟩
          omega
        · exact h4 j (by omega) hp
theorem pickTo_in (ls : List (Int × Int × Bool)) (p : Int) (k : Nat) : -1 ≤ pickTo ls p k ∧ pickTo ls p k < k := by
  rcases pickTo_spec ls p k with ⟨h1, _⟩ | ⟨q, h1, h2, _⟩ <;> omega
theorem pickTo_is {ls : List (Int × Int × Bool)} {p : Int} {k q : Nat} (h2 : q < k) (h3 : p ≤ aB ls q) (h4 : ∀ j, j < k → p ≤ aB ls j → bB ls q ≤ bB ls j) (h5 : ∀ j, j < q → p ≤ aB ls j → bB ls q < bB ls j) : pickTo ls p k = q := by
  rcases pickTo_spec ls p k with ⟨_, g2⟩ | ⟨r, g1, g2, g3, g4, g5⟩
  · have := g2 q h2; omega
  · rw [g1]
    rcases Nat.lt_trichotomy r q with h | h | h
    · have := h5 r h g3; have := g4 q h2 h3; omega
    · rw [h]
    · have := g5 q h h3; have := h4 r g2 g3; omega
theorem pickTo_none {ls : List (Int × Int × Bool)} {p : Int} {k : Nat} (h : ∀ j, j < k → aB ls j < p) : pickTo ls p k = -1 := by
  rcases pickTo_spec ls p k with ⟨g1, _⟩ | ⟨r, g1, g2, g3, _⟩
  · exact g1
  · have := h r g2; omega

/-- the bookings that are taken one behind the other -/
def bestFrom (ls : List (Int × Int × Bool)) : Nat → Int → List Int
  | 0, _ => []
  | f + 1, p => if pickTo ls p ls.length < 0 then [] else pickTo ls p ls.length :: bestFrom ls f (bB ls (pickTo ls p ls.length).toNat)
def bestSeq (ls : List (Int × Int × Bool)) : List Int := bestFrom ls 8 0
theorem bestFrom_len (ls : List (Int × Int × Bool)) : ∀ (f : Nat) (p : Int), (bestFrom ls f p).length ≤ f := by
  intro f
  induction f with
  | zero => intro p; simp [bestFrom]
  | succ f ih =>
    intro p
    rw [bestFrom]
    split
    · simp
    · have := ih (bB ls (pickTo ls p ls.length).toNat)
      simp only [List.length_cons]; omega
theorem bestFrom_mem {n : Int} {ls : List (Int × Int × Bool)} (ha : AllB n ls) : ∀ (f : Nat) (p x : Int), x ∈ bestFrom ls f p → ∃ q : Nat, x = q ∧ q < ls.length ∧ p ≤ aB ls q := by
  intro f
  induction f with
  | zero => intro p x h; simp [bestFrom] at h
  | succ f ih =>
    intro p x h
    rw [bestFrom] at h
    split at h
    · simp at h
    · rcases pickTo_spec ls p ls.length with ⟨g1, _⟩ | ⟨q, g1, g2, g3, _⟩
      · omega
      · rw [g1] at h
        rcases List.mem_cons.1 h with h | h
        · exact ⟨q, h, g2, g3⟩
        · obtain ⟨r, h1, h2, h3⟩ := ih _ x h
          have := ha q g2
          simp only [Int.toNat_natCast] at h3
          exact ⟨r, h1, h2, by omega⟩
theorem bestFrom_nodup {n : Int} {ls : List (Int × Int × Bool)} (ha : AllB n ls) : ∀ (f : Nat) (p : Int), (bestFrom ls f p).Nodup := by
  intro f
  induction f with
  | zero => intro p; simp [bestFrom]
  | succ f ih =>
    intro p
    rw [bestFrom]
    split
    · simp
    · rcases pickTo_spec ls p ls.length with ⟨g1, _⟩ | ⟨q, g1, g2, g3, _⟩
      · omega
      · rw [g1, List.nodup_cons]
        refine ⟨fun h => ?_, ih _⟩
        obtain ⟨r, h1, h2, h3⟩ := bestFrom_mem ha f _ _ h
        have := ha q g2
        simp only [Int.toNat_natCast] at h3
        have : r = q := by omega
        subst this
        omega

/-- the indexes of the marks, ascending -/
def outL (ms : List Bool) : Nat → List Int
  | 0 => []
  | k + 1 => outL ms k ++ (if ms.getD k false = true then [(k : Int)] else [])
theorem outL_le (ms : List Bool) (k : Nat) : (outL ms k).length ≤ k := by
  induction k with
  | zero => simp [outL]
  | succ k ih => rw [outL, List.length_append]; split <;> simp <;> omega
theorem outL_mem (ms : List Bool) (k : Nat) (x : Int) : x ∈ outL ms k ↔ ∃ q : Nat, x = q ∧ q < k ∧ ms.getD q false = true := by
  induction k with
  | zero => simp [outL]
  | succ k ih =>
    rw [outL, List.mem_append, ih]
    constructor
    · rintro (⟨q, h1, h2, h3⟩ | h)
      · exact ⟨q, h1, by omega, h3⟩
      · split at h
        · rename_i hm
          simp at h
          exact ⟨k, h, by omega, hm⟩
        · simp at h
    · rintro ⟨q, h1, h2, h3⟩
      by_cases e : q = k
      · subst e
        right
        rw [h3]
        simpa using h1
      · exact .inl ⟨q, h1, by omega, h3⟩
theorem outL_asc (ms : List Bool) (k : Nat) : (outL ms k).Pairwise (· < ·) := by
  induction k with
  | zero => simp [outL]
  | succ k ih =>
    rw [outL, List.pairwise_append]
    refine ⟨ih, by split <;> simp, fun a ha b hb => ?_⟩
    obtain ⟨q, h1, h2, _⟩ := (outL_mem ms k a).1 ha
    split at hb
    · simp at hb; omega
    · simp at hb
theorem outL_false (ms : List Bool) (k : Nat) (h : ∀ j, j < k → ms.getD j false = false) : outL ms k = [] := by
  induction k with
  | zero => rfl
  | succ k ih => rw [outL, ih (fun j hj => h j (by omega)), h k (by omega)]; rfl
/-- which bookings are taken -/
def marksOf (ls : List (Int × Int × Bool)) : List Bool := (List.range ls.length).map fun (i : Nat) => decide ((i : Int) ∈ bestSeq ls)
theorem marksOf_at (ls : List (Int × Int × Bool)) (j : Nat) (h : j < ls.length) : (marksOf ls).getD j false = decide ((j : Int) ∈ bestSeq ls) := by
  simp [marksOf, h]
def bestOut (ls : List (Int × Int × Bool)) : List Int := outL (marksOf ls) ls.length
def bestOk (n : Int) (ls : List (Int × Int × Bool)) : Bool := bValid n ls && ls.all fun b => b.2.2
def seatsBest (n : Int) (ls : List (Int × Int × Bool)) : List Int := if bestOk n ls = true then bestOut ls else []
theorem seatsBest_f {n : Int} {ls : List (Int × Int × Bool)} (h : bestOk n ls = false) : seatsBest n ls = [] := by rw [seatsBest, h]; rfl
theorem seatsBest_t {n : Int} {ls : List (Int × Int × Bool)} (h : bestOk n ls = true) : seatsBest n ls = bestOut ls := by rw [seatsBest, h]; rfl
theorem seatsBest_le (n : Int) (ls : List (Int × Int × Bool)) : (seatsBest n ls).length ≤ 1048576 := by
  unfold seatsBest; split
  · have h := ‹bestOk n ls = true›
    simp only [bestOk, Bool.and_eq_true] at h
    have := (bValid_parts h.1).2.2.1
    have := outL_le (marksOf ls) ls.length
    unfold bestOut; omega
  · simp
theorem asc_of_pairwise {xs : List Int} (h : xs.Pairwise (· < ·)) : AscTo xs xs.length := fun i j h1 h2 => by
  rw [List.pairwise_iff_getElem] at h
  have := h i j (by omega) h2 h1
  simp [a1, h2, show i < xs.length by omega]
  omega
theorem bestOut_perm {n : Int} {ls : List (Int × Int × Bool)} (ha : AllB n ls) : (bestSeq ls).Perm (bestOut ls) := by
  have hn : (bestOut ls).Nodup := (outL_asc _ _).imp (fun {a b} h => by omega)
  have hb : (bestSeq ls).Nodup := bestFrom_nodup ha 8 0
  rw [List.perm_ext_iff_of_nodup hb hn]
  intro x
  rw [bestOut, outL_mem]
  constructor
  · intro h
    obtain ⟨q, h1, h2, _⟩ := bestFrom_mem ha 8 0 x h
    exact ⟨q, h1, h2, by rw [marksOf_at ls q h2, ← h1]; exact decide_eq_true h⟩
  · rintro ⟨q, h1, h2, h3⟩
    rw [marksOf_at ls q h2, ← h1] at h3
    exact of_decide_eq_true h3
/-- whatever is sorted out of the taken ones is the list of the marks -/
theorem best_sorted {n : Int} {ls : List (Int × Int × Bool)} (ha : AllB n ls) {ys : List Int} {m : Nat} (hm : (bestSeq ls).length = m) (hp : ys.Perm (bestSeq ls)) (hy : AscTo ys m) : ys = bestOut ls :=
  asc_eq (hp.trans (bestOut_perm ha)) (by rw [hp.length_eq, hm]; exact hy) (asc_of_pairwise (outL_asc _ _))

/-- the reference's state ahead of the booking i at the end t -/
def BestSt (ls : List (Int × Int × Bool)) (t : Int) (i : Nat) (ms : List Bool) (last : Int) : Prop :=
  ∃ (S : List Int) (f : Nat), S ++ bestFrom ls f last = bestSeq ls ∧ 8 ≤ f + last ∧ 0 ≤ last ∧ ms.length = ls.length ∧ (∀ j, j < ls.length → ms.getD j false = decide ((j : Int) ∈ S)) ∧
    (∀ j, j < ls.length → last ≤ aB ls j → t < bB ls j ∨ t = bB ls j ∧ i ≤ j) ∧ last ≤ t
theorem BestSt.start {n : Int} {ls : List (Int × Int × Bool)} (ha : AllB n ls) (hn : 1 ≤ n) : BestSt ls 1 0 (List.replicate ls.length false) 0 :=
  ⟨[], 8, rfl, by omega, by omega, by simp, fun j hj => by simp [hj], fun j hj h => by have := ha j hj; omega, by omega⟩
theorem BestSt.skip {ls : List (Int × Int × Bool)} {t : Int} {i : Nat} {ms : List Bool} {last : Int} (h : BestSt ls t i ms last) (hno : ¬ (bB ls i = t ∧ last ≤ aB ls i)) : BestSt ls t (i + 1) ms last := by
  obtain ⟨S, f, h1, h2, h3, h4, h5, h6, h7⟩ := h
  refine ⟨S, f, h1, h2, h3, h4, h5, fun j hj hl => ?_, h7⟩
  rcases h6 j hj hl with g | ⟨g1, g2⟩
  · exact .inl g
  · by_cases e : j = i
    · subst e; exact absurd ⟨g1.symm, hl⟩ hno
    · exact .inr ⟨g1, by omega⟩
theorem BestSt.take {n : Int} {ls : List (Int × Int × Bool)} {t : Int} {i : Nat} {ms : List Bool} {last : Int} (ha : AllB n ls) (hn : n ≤ 7) (h : BestSt ls t i ms last) (hi : i < ls.length) (hb : bB ls i = t) (hl : last ≤ aB ls i) :
    BestSt ls t (i + 1) (ms.set i true) t := by
  obtain ⟨S, f, h1, h2, h3, h4, h5, h6, h7⟩ := h
  have hai := ha i hi
  have hp : pickTo ls last ls.length = i := pickTo_is hi hl (fun j hj hlj => by rcases h6 j hj hlj with g | ⟨g, _⟩ <;> omega) (fun j hj hlj => by rcases h6 j (by omega) hlj with g | ⟨_, g⟩ <;> omega)
  obtain ⟨f, rfl⟩ : ∃ g, f = g + 1 := ⟨f - 1, by omega⟩
  refine ⟨S ++ [(i : Int)], f, ?_, by omega, by omega, by rw [List.length_set, h4], fun j hj => ?_, fun j hj hlj => ?_, by omega⟩
  · rw [← h1, bestFrom, hp, if_neg (by omega), List.append_assoc, Int.toNat_natCast, hb]
    rfl
  · by_cases e : j = i
    · subst e
      rw [List.getD_eq_getElem?_getD, List.getElem?_set_self (by omega)]
      simp
    · rw [List.getD_eq_getElem?_getD, List.getElem?_set_ne (by omega), ← List.getD_eq_getElem?_getD, h5 j hj]
      congr 1
      simp [show ¬ ((j : Int) = (i : Int)) by omega]
  · have := ha j hj
    omega
theorem BestSt.next {ls : List (Int × Int × Bool)} {t : Int} {i : Nat} {ms : List Bool} {last : Int} (h : BestSt ls t i ms last) (hi : ls.length ≤ i) : BestSt ls (t + 1) 0 ms last := by
  obtain ⟨S, f, h1, h2, h3, h4, h5, h6, h7⟩ := h
  exact ⟨S, f, h1, h2, h3, h4, h5, fun j hj hl => by rcases h6 j hj hl with g | ⟨_, g⟩ <;> omega, by omega⟩
theorem BestSt.done {n : Int} {ls : List (Int × Int × Bool)} {t : Int} {i : Nat} {ms : List Bool} {last : Int} (ha : AllB n ls) (h : BestSt ls t i ms last) (ht : n < t) : outL ms ls.length = bestOut ls := by
  obtain ⟨S, f, h1, h2, h3, h4, h5, h6, h7⟩ := h
  have hnil : bestFrom ls f last = [] := by
    cases f with
    | zero => rfl
    | succ f =>
      rw [bestFrom, pickTo_none (fun j hj => by
        have := ha j hj
        by_cases hl : last ≤ aB ls j
        · rcases h6 j hj hl with g | ⟨g, _⟩ <;> omega
        · omega), if_pos (by omega)]
  rw [hnil, List.append_nil] at h1
  subst h1
  unfold bestOut
  have : ∀ k, k ≤ ls.length → outL ms k = outL (marksOf ls) k := by
    intro k
    induction k with
    | zero => intro _; rfl
    | succ k ih => intro hk; rw [outL, outL, ih (by omega), h5 k (by omega), marksOf_at ls k (by omega)]
  exact this _ (Nat.le_refl _)
theorem BestSt.len {ls : List (Int × Int × Bool)} {t : Int} {i : Nat} {ms : List Bool} {last : Int} (h : BestSt ls t i ms last) : ms.length = ls.length := by
  obtain ⟨_, _, _, _, _, h4, _⟩ := h; exact h4
theorem BestSt.last {ls : List (Int × Int × Bool)} {t : Int} {i : Nat} {ms : List Bool} {last : Int} (h : BestSt ls t i ms last) : 0 ≤ last ∧ last ≤ t := by
  obtain ⟨_, _, _, _, h3, _, _, _, h7⟩ := h; exact ⟨h3, h7⟩
end Go.Proofs.Ytpcmkegogcffiaa

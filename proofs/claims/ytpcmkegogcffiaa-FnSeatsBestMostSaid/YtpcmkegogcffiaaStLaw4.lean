/- Plain laws of the best bookings: they do not meet, all others meet one, none are more. -/
import Derived.Test.YtpcmkegogcffiaaBest
namespace Go.Proofs.Ytpcmkegogcffiaa
open Go.RowKit

/-- two bookings meet -/
def meetB (ls : List (Int × Int × Bool)) (i q : Nat) : Bool := decide (aB ls i < bB ls q) && decide (aB ls q < bB ls i)
theorem bestFrom_apart {n : Int} {ls : List (Int × Int × Bool)} (ha : AllB n ls) : ∀ (f : Nat) (p : Int), (bestFrom ls f p).Pairwise (fun x y => bB ls x.toNat ≤ aB ls y.toNat) := by
  intro f
  induction f with
  | zero => intro p; exact List.Pairwise.nil
  | succ f ih =>
    intro p
    rw [bestFrom]
    split
    · exact List.Pairwise.nil
    · refine List.Pairwise.cons (fun y hy => ?_) (ih _)
      obtain ⟨q, rfl, hq, hp⟩ := bestFrom_mem ha f _ y hy
      rw [Int.toNat_natCast]
      exact hp
theorem bestFrom_hit {n : Int} {ls : List (Int × Int × Bool)} (ha : AllB n ls) : ∀ (f : Nat) (p : Int), n - p < f → ∀ i, i < ls.length → p ≤ aB ls i → ∃ q : Nat, (q : Int) ∈ bestFrom ls f p ∧ q < ls.length ∧ meetB ls i q = true := by
  intro f
  induction f with
  | zero => intro p hf i hi hp; have := ha i hi; omega
  | succ f ih =>
    intro p hf i hi hp
    rcases pickTo_spec ls p ls.length with ⟨_, g2⟩ | ⟨q, g1, g2, g3, g4, _⟩
    · have := g2 i hi; omega
    · have hq := ha q g2
      have hqi := g4 i hi hp
      rw [bestFrom, g1, if_neg (by omega), Int.toNat_natCast]
      by_cases h : aB ls i < bB ls q
      · exact ⟨q, by simp, g2, by simp [meetB, h]; omega⟩
      · obtain ⟨r, r1, r2, r3⟩ := ih (bB ls q) (by omega) i hi (by omega)
        exact ⟨r, List.mem_cons_of_mem _ r1, r2, r3⟩
theorem bestFrom_few {n : Int} {ls : List (Int × Int × Bool)} (ha : AllB n ls) : ∀ (f : Nat) (p : Int), p ≤ n → ((bestFrom ls f p).length : Int) ≤ n - p := by
  intro f
  induction f with
  | zero => intro p hp; simp [bestFrom]; omega
  | succ f ih =>
    intro p hp
    rcases pickTo_spec ls p ls.length with ⟨g1, _⟩ | ⟨q, g1, g2, g3, _, _⟩
    · rw [bestFrom, g1, if_pos (by omega)]; simp; omega
    · have hq := ha q g2
      have := ih (bB ls q) (by omega)
      rw [bestFrom, g1, if_neg (by omega), Int.toNat_natCast, List.length_cons]
      omega
/-- indexes of bookings that do not meet one another -/
def Apart (ls : List (Int × Int × Bool)) (S : List Nat) : Prop := S.Pairwise (fun x y => bB ls x ≤ aB ls y ∨ bB ls y ≤ aB ls x)
theorem split_len (f : Nat → Bool) : ∀ S : List Nat, S.length = (S.filter f).length + (S.filter (fun x => !f x)).length := by
  intro S
  induction S with
  | nil => rfl
  | cons x S ih =>
    rw [List.filter_cons, List.filter_cons, List.length_cons, ih]
    cases f x <;> simp <;> omega
theorem bestFrom_most {n : Int} {ls : List (Int × Int × Bool)} (ha : AllB n ls) : ∀ (f : Nat) (p : Int), n - p < f → ∀ S : List Nat, (∀ x ∈ S, x < ls.length ∧ p ≤ aB ls x) → Apart ls S → S.length ≤ (bestFrom ls f p).length := by
  intro f
  induction f with
  | zero =>
    intro p hf S hS _
    cases S with
    | nil => simp
    | cons x S => have h := hS x (by simp); have := ha x h.1; omega
  | succ f ih =>
    intro p hf S hS hap
    rcases pickTo_spec ls p ls.length with ⟨_, g2⟩ | ⟨q, g1, g2, g3, g4, _⟩
    · cases S with
      | nil => simp
      | cons x S => have h := hS x (by simp); have := g2 x h.1; omega
    · have hq := ha q g2
      rw [bestFrom, g1, if_neg (by omega), Int.toNat_natCast, List.length_cons]
      have h1 : (S.filter (fun x => decide (bB ls q ≤ aB ls x))).length ≤ (bestFrom ls f (bB ls q)).length :=
        ih (bB ls q) (by omega) _ (fun x hx => by rw [List.mem_filter] at hx; exact ⟨(hS x hx.1).1, by simpa using hx.2⟩) (hap.filter _)
      have h2 : (S.filter (fun x => !decide (bB ls q ≤ aB ls x))).length ≤ 1 := by
        have hp2 : (S.filter (fun x => !decide (bB ls q ≤ aB ls x))).Pairwise (fun x y => bB ls x ≤ aB ls y ∨ bB ls y ≤ aB ls x) := hap.filter _
        have hm : ∀ x ∈ S.filter (fun x => !decide (bB ls q ≤ aB ls x)), aB ls x < bB ls q ∧ bB ls q ≤ bB ls x := fun x hx => by
          rw [List.mem_filter] at hx
          have h := hS x hx.1
          have h3 := g4 x h.1 h.2
          have h4 : ¬ bB ls q ≤ aB ls x := by simpa using hx.2
          omega
        generalize S.filter (fun x => !decide (bB ls q ≤ aB ls x)) = R at hp2 hm
        match R, hp2, hm with
        | [], _, _ => simp
        | [x], _, _ => simp
        | x :: y :: r, hp2, hm =>
          rw [List.pairwise_cons] at hp2
          have e := hp2.1 y (by simp)
          have e1 := hm x (by simp)
          have e2 := hm y (by simp)
          omega
      have h3 : S.length = (S.filter (fun x => decide (bB ls q ≤ aB ls x))).length + (S.filter (fun x => !decide (bB ls q ≤ aB ls x))).length := split_len _ S
      omega
theorem bestOut_mem {n : Int} {ls : List (Int × Int × Bool)} (ha : AllB n ls) {x : Int} : x ∈ bestOut ls ↔ x ∈ bestSeq ls := (bestOut_perm ha).mem_iff.symm
theorem bestOut_in {n : Int} {ls : List (Int × Int × Bool)} (ha : AllB n ls) {x : Int} (h : x ∈ bestOut ls) : ∃ q : Nat, x = q ∧ q < ls.length := by
  obtain ⟨q, h1, h2, _⟩ := bestFrom_mem ha 8 0 x ((bestOut_mem ha).mp h)
  exact ⟨q, h1, h2⟩
theorem bestOut_hit {n : Int} {ls : List (Int × Int × Bool)} (ha : AllB n ls) (hn : n ≤ 7) {i : Nat} (hi : i < ls.length) : ∃ q : Nat, (q : Int) ∈ bestOut ls ∧ q < ls.length ∧ meetB ls i q = true := by
  obtain ⟨q, h1, h2, h3⟩ := bestFrom_hit ha 8 0 (by omega) i hi (ha i hi).1
  exact ⟨q, (bestOut_mem ha).mpr h1, h2, h3⟩
theorem bestOut_apart {n : Int} {ls : List (Int × Int × Bool)} (ha : AllB n ls) {i q : Nat} (hi : (i : Int) ∈ bestOut ls) (hq : (q : Int) ∈ bestOut ls) (hne : q ≠ i) : meetB ls i q = false := by
  have hp := bestFrom_apart ha 8 0
  have h1 := (bestOut_mem ha).mp hi
  have h2 := (bestOut_mem ha).mp hq
  have key : ∀ (L : List Int), L.Pairwise (fun x y => bB ls x.toNat ≤ aB ls y.toNat) → (i : Int) ∈ L → (q : Int) ∈ L → bB ls i ≤ aB ls q ∨ bB ls q ≤ aB ls i := by
    intro L
    induction L with
    | nil => intro _ h _; cases h
    | cons x L ih =>
      intro hL ha hb
      rw [List.pairwise_cons] at hL
      rcases List.mem_cons.mp ha with ha | ha <;> rcases List.mem_cons.mp hb with hb | hb
      · omega
      · have := hL.1 _ hb; rw [← ha, Int.toNat_natCast, Int.toNat_natCast] at this; exact .inl this
      · have := hL.1 _ ha; rw [← hb, Int.toNat_natCast, Int.toNat_natCast] at this; exact .inr this
      · exact ih hL.2 ha hb
  rcases key _ hp h1 h2 with h | h
  · simp only [meetB, Bool.and_eq_false_iff, decide_eq_false_iff_not]; omega
  · simp only [meetB, Bool.and_eq_false_iff, decide_eq_false_iff_not]; omega
theorem bestOut_few {n : Int} {ls : List (Int × Int × Bool)} (ha : AllB n ls) (hn : 0 ≤ n) : ((bestOut ls).length : Int) ≤ n := by
  have := bestFrom_few ha 8 0 hn
  rw [← (bestOut_perm ha).length_eq]
  unfold bestSeq
  omega
theorem bestOut_most {n : Int} {ls : List (Int × Int × Bool)} (ha : AllB n ls) (hn : n ≤ 7) (S : List Nat) (hS : ∀ x ∈ S, x < ls.length) (hap : Apart ls S) : S.length ≤ (bestOut ls).length := by
  rw [← (bestOut_perm ha).length_eq]
  exact bestFrom_most ha 8 0 (by omega) S (fun x hx => ⟨hS x hx, (ha x (hS x hx)).1⟩) hap
/-- a booking meets one of the first taken ones -/
def hitTo (ls : List (Int × Int × Bool)) (i : Nat) (out : List Int) : Nat → Bool
  | 0 => false
  | k + 1 => hitTo ls i out k || meetB ls i (a1 out k).toNat
theorem hitTo_of {ls : List (Int × Int × Bool)} {i : Nat} {out : List Int} {q : Nat} (hm : meetB ls i q = true) : ∀ k, (∃ j, j < k ∧ a1 out j = q) → hitTo ls i out k = true := by
  intro k
  induction k with
  | zero => rintro ⟨j, h, _⟩; omega
  | succ k ih =>
    rintro ⟨j, h1, h2⟩
    rw [hitTo]
    by_cases e : j = k
    · subst e; rw [h2, Int.toNat_natCast, hm, Bool.or_true]
    · rw [ih ⟨j, by omega, h2⟩, Bool.true_or]
theorem a1_mem {out : List Int} {k : Nat} (h : k < out.length) : a1 out k ∈ out := by
  unfold a1
  rw [List.getD_eq_getElem?_getD, List.getElem?_eq_getElem h]
  exact List.getElem_mem h
theorem mem_a1 {out : List Int} {x : Int} (h : x ∈ out) : ∃ j, j < out.length ∧ a1 out j = x := by
  obtain ⟨j, hj, rfl⟩ := List.mem_iff_getElem.mp h
  exact ⟨j, hj, by unfold a1; rw [List.getD_eq_getElem?_getD, List.getElem?_eq_getElem hj]; rfl⟩
end Go.Proofs.Ytpcmkegogcffiaa

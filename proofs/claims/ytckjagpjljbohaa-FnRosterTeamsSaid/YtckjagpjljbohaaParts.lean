/- The plain functions of parts: what both texts compute. -/
import Derived.Test.YtckjagpjljbohaaBase
namespace Go.Proofs.Ytckjagpjljbohaa
open Go.RowKit

def pOk (p : Int × Int) : Bool := decide (0 ≤ p.1) && decide (p.1 ≤ 5) && decide (1 ≤ p.2) && decide (p.2 ≤ 99)
def partsValid (ps : List (Int × Int)) : Bool := decide (1 ≤ ps.length) && decide (ps.length ≤ 12) && ps.all pOk
theorem pOk_true {ps : List (Int × Int)} {k : Nat} (h : pOk (ps.getD k (0, 0)) = true) : 0 ≤ a2 ps k ∧ a2 ps k ≤ 5 ∧ 1 ≤ b2 ps k ∧ b2 ps k ≤ 99 := by
  simp only [pOk, Bool.and_eq_true, decide_eq_true_eq] at h
  exact ⟨h.1.1.1, h.1.1.2, h.1.2, h.2⟩
theorem pOk_false {ps : List (Int × Int)} {k : Nat} (h : pOk (ps.getD k (0, 0)) = false) : a2 ps k < 0 ∨ 5 < a2 ps k ∨ b2 ps k < 1 ∨ 99 < b2 ps k := by
  simp only [pOk, Bool.and_eq_false_iff, decide_eq_false_iff_not] at h
  unfold a2 b2
  omega
theorem all_step {α : Type} (p : α → Bool) (xs : List α) (k : Nat) (d : α) (h : k < xs.length) : (xs.drop k).all p = (p (xs.getD k d) && (xs.drop (k + 1)).all p) := by
  rw [drop_at xs k d h, List.all_cons]
theorem partsValid_len {ps : List (Int × Int)} (h : partsValid ps = true) : 1 ≤ ps.length ∧ ps.length ≤ 12 := by
  simp only [partsValid, Bool.and_eq_true, decide_eq_true_eq] at h
  exact h.1
theorem partsValid_at {ps : List (Int × Int)} (h : partsValid ps = true) (k : Nat) (hk : k < ps.length) : 0 ≤ a2 ps k ∧ a2 ps k ≤ 5 ∧ 1 ≤ b2 ps k ∧ b2 ps k ≤ 99 := by
  simp only [partsValid, Bool.and_eq_true, List.all_eq_true] at h
  exact pOk_true (h.2 _ (by simp [hk]))

/-- the sum of all Miles -/
def sumB (ps : List (Int × Int)) : Int := ps.foldr (fun p s => p.2 + s) 0
def partsLength (ps : List (Int × Int)) : Int := if partsValid ps = true then sumB ps else -1
theorem sumB_step (ps : List (Int × Int)) (k : Nat) (h : k < ps.length) : sumB (ps.drop k) = b2 ps k + sumB (ps.drop (k + 1)) := by
  rw [drop_at ps k (0, 0) h]; rfl
/-- the miles of each proprietor -/
def milesStep (out : List Int) (p : Int × Int) : List Int := out.set p.1.toNat (out.getD p.1.toNat 0 + p.2)
def miles (ps : List (Int × Int)) : List Int := ps.foldl milesStep (List.replicate 6 0)
theorem milesStep_len (out : List Int) (p : Int × Int) : (milesStep out p).length = out.length := by simp [milesStep]
theorem miles_len (ps : List (Int × Int)) : (miles ps).length = 6 := by
  have : ∀ (qs : List (Int × Int)) (out : List Int), (qs.foldl milesStep out).length = out.length := by
    intro qs
    induction qs with
    | nil => intro out; rfl
    | cons q qs ih => intro out; rw [List.foldl_cons, ih, milesStep_len]
  exact this ps _
theorem miles_step (ps : List (Int × Int)) (out : List Int) (k : Nat) (h : k < ps.length) : (ps.drop k).foldl milesStep out = (ps.drop (k + 1)).foldl milesStep (milesStep out (a2 ps k, b2 ps k)) := by
  rw [drop_at ps k (0, 0) h, List.foldl_cons]; rfl
/-- the sum of a list -/
def sum1 (xs : List Int) : Int := xs.foldr (fun x s => x + s) 0
theorem sum1_step (xs : List Int) (k : Nat) (h : k < xs.length) : sum1 (xs.drop k) = a1 xs k + sum1 (xs.drop (k + 1)) := by
  rw [drop_at xs k 0 h]; rfl
theorem sum1_set (xs : List Int) : ∀ (k : Nat) (v : Int), k < xs.length → sum1 (xs.set k v) = sum1 xs - xs.getD k 0 + v := by
  induction xs with
  | nil => intro k v h; simp at h
  | cons x xs ih =>
    intro k v h
    cases k with
    | zero => simp [sum1]; omega
    | succ k =>
      have := ih k v (by simpa using h)
      simp only [List.set_cons_succ, List.getD_cons_succ, sum1, List.foldr_cons] at this ⊢

      omega
theorem sum1_fold (ps : List (Int × Int)) : ∀ (out : List Int), out.length = 6 → (∀ p ∈ ps, pOk p = true) → sum1 (ps.foldl milesStep out) = sum1 out + sumB ps := by
  induction ps with
  | nil => intro out _ _; simp [sumB]
  | cons p ps ih =>
    intro out hl hp
    have hp0 := hp p (by simp)
    simp only [pOk, Bool.and_eq_true, decide_eq_true_eq] at hp0
    rw [List.foldl_cons, ih _ (by rw [milesStep_len, hl]) (fun q hq => hp q (by simp [hq])), milesStep, sum1_set _ _ _ (by omega)]
    simp only [sumB, List.foldr_cons]
    omega
theorem sum1_miles {ps : List (Int × Int)} (h : partsValid ps = true) : sum1 (miles ps) = sumB ps := by
  simp only [partsValid, Bool.and_eq_true, List.all_eq_true] at h
  rw [miles, sum1_fold ps _ (by simp) h.2]
  show sum1 [0, 0, 0, 0, 0, 0] + _ = _
  simp [sum1]
/-- all numbers of a list lie in a range -/
def InR (lo hi : Int) (xs : List Int) : Prop := ∀ k, k < xs.length → lo ≤ a1 xs k ∧ a1 xs k ≤ hi
theorem InR.set {lo hi hi' : Int} {xs : List Int} (h : InR lo hi xs) (hh : hi ≤ hi') {k : Nat} {v : Int} (h1 : lo ≤ v) (h2 : v ≤ hi') : InR lo hi' (xs.set k v) := by
  intro j hj
  simp only [List.length_set] at hj
  have := h j hj
  unfold a1 at *
  by_cases hk : k = j
  · subst hk
    simp [hj]
    omega
  · simp [List.getElem?_set_ne hk] at *
    omega
theorem InR.zero (n : Nat) : InR 0 0 (List.replicate n 0) := by
  intro j hj
  unfold a1
  rw [List.getD_eq_getElem?_getD, List.getElem?_replicate]
  split <;> simp
theorem miles_in' (qs : List (Int × Int)) : ∀ (out : List Int) (M : Int), (∀ q ∈ qs, pOk q = true) → InR 0 M out → InR 0 (M + 99 * qs.length) (qs.foldl milesStep out) := by
  induction qs with
  | nil => intro out M _ h; simpa using h
  | cons q qs ih =>
    intro out M hq h
    have hp0 := hq q (by simp)
    simp only [pOk, Bool.and_eq_true, decide_eq_true_eq] at hp0
    rw [List.foldl_cons]
    have := ih (milesStep out q) (M + 99) (fun r hr => hq r (by simp [hr])) (by
      by_cases hl : q.1.toNat < out.length
      · have hk := h _ hl
        unfold a1 at hk
        exact InR.set h (by omega) (by omega) (by omega)
      · unfold milesStep
        rw [List.set_eq_of_length_le (by omega)]
        exact fun k hk => ⟨(h k hk).1, by have := (h k hk).2; omega⟩)
    intro k hk
    have h2 := this k hk
    refine ⟨h2.1, ?_⟩
    have h3 := h2.2
    simp only [List.length_cons]
    omega
theorem miles_in {ps : List (Int × Int)} (h : partsValid ps = true) : InR (-2000) 2000 (miles ps) := by
  have hl := partsValid_len h
  simp only [partsValid, Bool.and_eq_true, List.all_eq_true] at h
  have := miles_in' ps (List.replicate 6 0) 0 h.2 (InR.zero 6)
  intro k hk
  have h2 := this k hk
  have h3 := h2.1
  have h4 := h2.2
  unfold miles
  omega

/-- the owner of each mile -/
def owners (ps : List (Int × Int)) : List Int := ps.flatMap fun p => List.replicate p.2.toNat p.1
/-- how many miles the first k parts have -/
def upMiles (ps : List (Int × Int)) (k : Nat) : Nat := (owners (ps.take k)).length
theorem upMiles_succ (ps : List (Int × Int)) (k : Nat) (h : k < ps.length) : upMiles ps (k + 1) = upMiles ps k + (b2 ps k).toNat := by
  unfold upMiles owners
  rw [take_snoc' (0, 0) ps k h, List.flatMap_append, List.length_append]
  simp [b2]
theorem owners_at (ps : List (Int × Int)) (k j : Nat) (h : k < ps.length) (hj : j < (b2 ps k).toNat) : (owners ps).getD (upMiles ps k + j) 0 = a2 ps k := by
  have e : owners ps = owners (ps.take k) ++ (List.replicate (b2 ps k).toNat (a2 ps k) ++ owners (ps.drop (k + 1))) := by
    have hsplit : ps = ps.take k ++ (ps.getD k (0, 0) :: ps.drop (k + 1)) := by rw [← drop_at ps k (0, 0) h, List.take_append_drop]
    conv => lhs; rw [hsplit]
    simp only [owners, List.flatMap_append, List.flatMap_cons, a2, b2]
  rw [e, List.getD_eq_getElem?_getD, List.getElem?_append_right (by unfold upMiles; omega), List.getElem?_append_left (by simp [upMiles]; omega), List.getElem?_replicate, if_pos (by simp [upMiles]; omega)]
  rfl
theorem owners_len (ps : List (Int × Int)) : (owners ps).length = upMiles ps ps.length := by unfold upMiles; rw [List.take_length]
theorem upMiles_le {ps : List (Int × Int)} (hv : partsValid ps = true) : ∀ k, k ≤ ps.length → upMiles ps k ≤ 99 * k := by
  intro k
  induction k with
  | zero => intro _; simp [upMiles, owners]
  | succ k ih =>
    intro h
    rw [upMiles_succ ps k (by omega)]
    have := ih (by omega)
    have hb := partsValid_at hv k (by omega)
    omega
theorem upMiles_mono (ps : List (Int × Int)) (k : Nat) (_h : k ≤ ps.length) : upMiles ps k ≤ (owners ps).length := by
  have e : owners ps = owners (ps.take k) ++ owners (ps.drop k) := by
    conv => lhs; rw [← List.take_append_drop k ps]
    simp only [owners, List.flatMap_append]
  unfold upMiles
  rw [e, List.length_append]
  omega
theorem owners_le {ps : List (Int × Int)} (hv : partsValid ps = true) : (owners ps).length ≤ 1188 := by
  rw [owners_len]
  have := upMiles_le hv ps.length (Nat.le_refl _)
  have := (partsValid_len hv).2
  omega
/-- f 0, .., f (k - 1) -/
def upto {α : Type} (f : Nat → α) (k : Nat) : List α := (List.range k).map f
theorem upto_succ {α : Type} (f : Nat → α) (k : Nat) : upto f (k + 1) = upto f k ++ [f k] := by simp [upto, List.range_succ]
theorem upto_len {α : Type} (f : Nat → α) (k : Nat) : (upto f k).length = k := by simp [upto]
/-- the miles, each with its owner -/
def mileAt (ps : List (Int × Int)) (j : Nat) : Nat × Int := (j, (owners ps).getD j 0)
theorem sumB_owners' : ∀ (ps : List (Int × Int)), (∀ p ∈ ps, pOk p = true) → sumB ps = (owners ps).length := by
  intro ps
  induction ps with
  | nil => intro _; rfl
  | cons p ps ih =>
    intro h
    have hp := h p (by simp)
    simp only [pOk, Bool.and_eq_true, decide_eq_true_eq] at hp
    have := ih (fun q hq => h q (by simp [hq]))
    simp only [sumB, List.foldr_cons, owners, List.flatMap_cons, List.length_append, List.length_replicate] at *
    omega
theorem sumB_owners {ps : List (Int × Int)} (h : partsValid ps = true) : sumB ps = (owners ps).length := by
  simp only [partsValid, Bool.and_eq_true, List.all_eq_true] at h
  exact sumB_owners' ps h.2
theorem owners_snoc (ps : List (Int × Int)) (k : Nat) (h : k < ps.length) : owners (ps.take (k + 1)) = owners (ps.take k) ++ List.replicate (b2 ps k).toNat (a2 ps k) := by
  unfold owners
  rw [take_snoc' (0, 0) ps k h, List.flatMap_append]
  simp [a2, b2]
theorem fl1_snoc (xs : List Int) (x : Int) : fl1 (xs ++ [x]) = fl1 xs ++ [.int .i64 x] := by rw [fl1, List.flatMap_append]; rfl
theorem rep_snoc (a : Int) (q : Nat) : List.replicate (q + 1) a = List.replicate q a ++ [a] := List.replicate_succ'
theorem owners_val {ps : List (Int × Int)} (hv : partsValid ps = true) : ∀ o ∈ owners ps, 0 ≤ o ∧ o ≤ 5 := by
  intro o ho
  simp only [owners, List.mem_flatMap] at ho
  obtain ⟨p, hp, hpo⟩ := ho
  obtain rfl : o = p.1 := List.eq_of_mem_replicate hpo
  simp only [partsValid, Bool.and_eq_true, List.all_eq_true] at hv
  have h := hv.2 p hp
  simp only [pOk, Bool.and_eq_true, decide_eq_true_eq] at h
  omega
/-- miles of one owner become one part -/
def plainStep (out : List (Int × Int)) (o : Int) : List (Int × Int) :=
  if 0 < out.length ∧ a2 out (out.length - 1) = o then out.set (out.length - 1) (a2 out (out.length - 1), b2 out (out.length - 1) + 1) else out ++ [(o, 1)]
def plain (os : List Int) : List (Int × Int) := os.foldl plainStep []
theorem plain_step (os : List Int) (out : List (Int × Int)) (k : Nat) (h : k < os.length) : (os.drop k).foldl plainStep out = (os.drop (k + 1)).foldl plainStep (plainStep out (a1 os k)) := by
  rw [drop_at os k 0 h, List.foldl_cons]; rfl
theorem plain_snoc (os : List Int) (o : Int) : plain (os ++ [o]) = plainStep (plain os) o := by simp [plain]
/-- the miles of a plain road and its length grow by one at the most -/
def PlIn (k : Int) (out : List (Int × Int)) : Prop := out.length ≤ k ∧ ∀ j, j < out.length → 0 ≤ b2 out j ∧ b2 out j ≤ k
theorem PlIn.step {k : Int} {out : List (Int × Int)} (h : PlIn k out) (hk : 0 ≤ k) (o : Int) : PlIn (k + 1) (plainStep out o) := by
  unfold plainStep
  split
  · rename_i hc
    refine ⟨by rw [List.length_set]; have := h.1; omega, fun j hj => ?_⟩
    rw [List.length_set] at hj
    have h1 := h.2 j hj
    have h2 := h.2 (out.length - 1) (by omega)
    unfold b2 at *
    by_cases e : out.length - 1 = j
    · rw [List.getD_eq_getElem?_getD, e, List.getElem?_set_self hj]
      rw [e] at h2
      simp only [Option.getD_some]
      omega
    · rw [List.getD_eq_getElem?_getD, List.getElem?_set_ne e, ← List.getD_eq_getElem?_getD]
      omega
  · refine ⟨by simp; have := h.1; omega, fun j hj => ?_⟩
    simp only [List.length_append, List.length_cons, List.length_nil] at hj
    unfold b2
    by_cases e : j < out.length
    · rw [List.getD_eq_getElem?_getD, List.getElem?_append_left e, ← List.getD_eq_getElem?_getD]
      have h1 := h.2 j e
      unfold b2 at h1
      omega
    · rw [List.getD_eq_getElem?_getD, List.getElem?_append_right (by omega), show j - out.length = 0 by omega]
      simp
      omega
theorem PlIn.plain (os : List Int) : PlIn os.length (plain os) := by
  have : ∀ (os : List Int) (out : List (Int × Int)) (k : Nat), PlIn k out → PlIn ((k + os.length : Nat) : Int) (os.foldl plainStep out) := by
    intro os
    induction os with
    | nil => intro out k h; simpa using h
    | cons o os ih =>
      intro out k h
      have := ih (plainStep out o) (k + 1) (by have := h.step (by omega) o; simpa using this)
      rw [List.foldl_cons, List.length_cons, show k + (os.length + 1) = k + 1 + os.length by omega]
      exact this
  have h := this os [] 0 ⟨by simp, fun j hj => by simp at hj⟩
  rw [Nat.zero_add] at h
  exact h
theorem row2_storeb {w : World} {base t g cap n : Nat} {xs : List (Int × Int)} (h : w.ownsRow base t 2 (.slice (some ⟨g, 0, none⟩) n cap) n (fl2 xs)) {k : Nat} (hk : k < xs.length) (b : Int) :
    (w.setCell ⟨g, k * 2 + 1, none⟩ (.int .i64 b)).ownsRow base t 2 (.slice (some ⟨g, 0, none⟩) n cap) n (fl2 (xs.set k (a2 xs k, b))) := by
  have h1 := (h.stored (k * 2 + 1) (.int .i64 b)).1
  have e1 : (fl2 xs).set (k * 2 + 1) (.int .i64 b) = fl2 (xs.set k (a2 xs k, b)) :=
    flat_set enc2 2 enc2_len xs k 1 _ _ _ (getD_some xs k (0, 0) hk) (by omega) rfl
  rw [e1] at h1
  exact h1
theorem fl2_snoc (xs : List (Int × Int)) (x : Int × Int) : fl2 (xs ++ [x]) = fl2 xs ++ [.int .i64 x.1, .int .i64 x.2] := by rw [fl2, List.flatMap_append]; rfl
theorem plainStep_new (out : List (Int × Int)) (o : Int) (h : out.length = 0 ∨ a2 out (out.length - 1) ≠ o) : plainStep out o = out ++ [(o, 1)] := by
  unfold plainStep
  rw [if_neg]
  rintro ⟨h1, h2⟩
  rcases h with h | h
  · omega
  · exact h h2
theorem plainStep_same (out : List (Int × Int)) (o : Int) (L : Nat) (hL : out.length = L + 1) (h : a2 out L = o) : plainStep out o = out.set L (a2 out L, b2 out L + 1) := by
  unfold plainStep
  rw [hL, Nat.add_sub_cancel, if_pos ⟨by omega, h⟩]
end Go.Proofs.Ytckjagpjljbohaa

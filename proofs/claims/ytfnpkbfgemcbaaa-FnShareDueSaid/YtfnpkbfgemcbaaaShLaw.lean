/- Plain laws of shares: what each proprietor gets. No program is named here. -/
import Derived.Test.YtfnpkbfgemcbaaaStabF
import Derived.Test.YtfnpkbfgemcbaaaParts
import Derived.Test.YtfnpkbfgemcbaaaPlLaw
import Derived.Test.YtfnpkbfgemcbaaaPa14
namespace Go.Proofs.Ytfnpkbfgemcbaaa
open Go.RowKit

def sumF (f : Nat → Int) : Nat → Int
  | 0 => 0
  | k + 1 => sumF f k + f k
/-- what is shared without rest, what is left of it -/
def baseF (ms : List Int) (S a : Int) (i : Nat) : Int := a * a1 ms i / S
def restF (ms : List Int) (S a : Int) (i : Nat) : Int := a * a1 ms i % S
def costF (ms : List Int) (S a : Int) (i : Nat) : Int := - restF ms S a i
def leftF (ms : List Int) (S a : Int) (k : Nat) : Int := a - sumF (baseF ms S a) k
/-- g 0, .., g (k - 1), then zeros, m in all -/
def fillF (g : Nat → Int) (m k : Nat) : List Int := (List.range m).map fun i => if i < k then g i else 0
theorem fillF_len (g : Nat → Int) (m k : Nat) : (fillF g m k).length = m := by simp [fillF]
theorem fillF_zero (g : Nat → Int) (m : Nat) : fillF g m 0 = List.replicate m 0 := by
  apply List.ext_getElem
  · simp [fillF]
  · intro i h1 h2; simp [fillF]
theorem fillF_at (g : Nat → Int) {m k i : Nat} (h : i < m) : a1 (fillF g m k) i = if i < k then g i else 0 := by
  unfold a1 fillF
  rw [List.getD_eq_getElem?_getD, List.getElem?_map, List.getElem?_range h]
  rfl
theorem fillF_set (g : Nat → Int) {m k : Nat} (_h : k < m) : (fillF g m k).set k (g k) = fillF g m (k + 1) := by
  apply List.ext_getElem
  · simp [fillF]
  · intro i h1 h2
    by_cases e : k = i
    · subst e
      rw [List.getElem_set_self]
      simp [fillF]
    · rw [List.getElem_set_ne e]
      simp only [fillF, List.getElem_map, List.getElem_range]
      by_cases c : i < k
      · rw [if_pos c, if_pos (by omega)]
      · rw [if_neg c, if_neg (by omega)]
theorem fillF_end (g : Nat → Int) (m : Nat) : fillF g m m = (List.range m).map g := by
  apply List.ext_getElem
  · simp [fillF]
  · intro i h1 h2
    simp only [fillF, List.getElem_map, List.getElem_range]
    rw [if_pos (by simpa [fillF] using h1)]
/-- one more for each of the first k that ys names -/
def bumpTo (B ys : List Int) : Nat → List Int
  | 0 => B
  | k + 1 => (bumpTo B ys k).set (a1 ys k).toNat (a1 (bumpTo B ys k) (a1 ys k).toNat + 1)
theorem bumpTo_len (B ys : List Int) : ∀ k, (bumpTo B ys k).length = B.length := by
  intro k
  induction k with
  | zero => rfl
  | succ k ih => rw [bumpTo, List.length_set, ih]
theorem bumpTo_in {B ys : List Int} {M : Int} (h : InR 0 M B) (_hM : 0 ≤ M) : ∀ k : Nat, InR 0 (M + k) (bumpTo B ys k) := by
  intro k
  induction k with
  | zero => rw [bumpTo]; simpa using h
  | succ k ih =>
    rw [bumpTo]
    by_cases hl : (a1 ys k).toNat < (bumpTo B ys k).length
    · have := ih _ hl
      exact InR.set ih (by omega) (by omega) (by push_cast; omega)
    · rw [List.set_eq_of_length_le (by omega)]
      intro j hj
      have := ih j hj
      push_cast
      omega
/-- what shareOut returns -/
def ShareIs (ms : List Int) (S a : Int) (R : List Int) : Prop :=
  ∃ ys : List Int, ys.Perm ((List.range 6).map fun (i : Nat) => (i : Int)) ∧ AscTo (keysF (costF ms S a) ys) 6 ∧ R = bumpTo ((List.range 6).map (baseF ms S a)) ys (leftF ms S a 6).toNat
theorem perm_in {ys : List Int} {n : Nat} (h : ys.Perm ((List.range n).map fun (i : Nat) => (i : Int))) : ys.length = n ∧ ∀ i, i < n → 0 ≤ a1 ys i ∧ a1 ys i < n := by
  have hl : ys.length = n := by rw [h.length_eq]; simp
  refine ⟨hl, fun i hi => ?_⟩
  have hmem : a1 ys i ∈ ys := by
    unfold a1
    rw [List.getD_eq_getElem?_getD, List.getElem?_eq_getElem (by omega)]
    exact List.getElem_mem (by omega)
  obtain ⟨v, hv, e⟩ := List.mem_map.1 (h.mem_iff.1 hmem)
  rw [List.mem_range] at hv
  omega
theorem order_one {cf : Nat → Int} {n : Nat} {ys zs : List Int} (hn : n ≤ 100) (hy : ys.Perm ((List.range n).map fun (i : Nat) => (i : Int))) (hz : zs.Perm ((List.range n).map fun (i : Nat) => (i : Int))) (ay : AscTo (keysF cf ys) n) (az : AscTo (keysF cf zs) n) : ys = zs := by
  obtain ⟨ly, iy⟩ := perm_in hy
  obtain ⟨lz, iz⟩ := perm_in hz
  have hk := asc_eq (xs := keysF cf ys) (ys := keysF cf zs) ((hy.trans hz.symm).map _) (by rw [keysF_len, ly]; exact ay) (by rw [keysF_len, lz]; exact az)
  apply List.ext_getElem?
  intro i
  by_cases hi : i < n
  · have h1 : a1 (keysF cf ys) i = a1 (keysF cf zs) i := by rw [hk]
    rw [keysF_at _ _ _ (by omega), keysF_at _ _ _ (by omega)] at h1
    have b1 := iy i hi
    have b2 := iz i hi
    unfold keyF at h1
    have e : a1 ys i = a1 zs i := by omega
    unfold a1 at e
    rw [List.getD_eq_getElem?_getD, List.getD_eq_getElem?_getD, List.getElem?_eq_getElem (by omega), List.getElem?_eq_getElem (by omega)] at e
    rw [List.getElem?_eq_getElem (by omega), List.getElem?_eq_getElem (by omega)]
    exact congrArg some e
  · rw [List.getElem?_eq_none (by omega), List.getElem?_eq_none (by omega)]
theorem ShareIs.one {ms : List Int} {S a : Int} {R R' : List Int} (h : ShareIs ms S a R) (h' : ShareIs ms S a R') : R = R' := by
  obtain ⟨ys, p1, a1, e1⟩ := h
  obtain ⟨zs, p2, a2, e2⟩ := h'
  rw [e1, e2, order_one (by omega) p1 p2 a1 a2]
theorem ShareIs.len {ms : List Int} {S a : Int} {R : List Int} (h : ShareIs ms S a R) : R.length = 6 := by
  obtain ⟨ys, _, _, e1⟩ := h
  rw [e1, bumpTo_len]
  simp
section
variable {ms : List Int} {S a : Int}
theorem split_all (_hS : 1 ≤ S) : ∀ k, S * sumF (baseF ms S a) k + sumF (restF ms S a) k = a * sumF (a1 ms) k := by
  intro k
  induction k with
  | zero => simp [sumF]
  | succ k ih =>
    have h := Int.mul_ediv_add_emod (a * a1 ms k) S
    rw [sumF, sumF, sumF, Int.mul_add, Int.mul_add]
    unfold baseF restF at *
    omega
theorem rest_in (hS : 1 ≤ S) (i : Nat) : 0 ≤ restF ms S a i ∧ restF ms S a i < S := ⟨Int.emod_nonneg _ (by omega), Int.emod_lt_of_pos _ (by omega)⟩
theorem rest_sum (hS : 1 ≤ S) : ∀ k, 0 ≤ sumF (restF ms S a) k ∧ sumF (restF ms S a) k ≤ k * (S - 1) := by
  intro k
  induction k with
  | zero => simp [sumF]
  | succ k ih =>
    have := rest_in (ms := ms) (a := a) hS k
    rw [sumF]
    push_cast
    rw [Int.add_mul]
    omega
theorem left_in (hS : 1 ≤ S) (hall : sumF (a1 ms) 6 = S) : 0 ≤ leftF ms S a 6 ∧ leftF ms S a 6 ≤ 5 ∧ S * leftF ms S a 6 = sumF (restF ms S a) 6 := by
  have h := split_all (ms := ms) (a := a) hS 6
  have hr := rest_sum (ms := ms) (a := a) hS 6
  rw [hall] at h
  have e : S * leftF ms S a 6 = sumF (restF ms S a) 6 := by
    unfold leftF
    rw [Int.mul_sub, Int.mul_comm S a]
    omega
  refine ⟨?_, ?_, e⟩
  · refine Classical.byContradiction fun q => ?_
    have : S * leftF ms S a 6 ≤ S * (-1) := Int.mul_le_mul_of_nonneg_left (by omega) (by omega)
    omega
  · refine Classical.byContradiction fun q => ?_
    have : S * 6 ≤ S * leftF ms S a 6 := Int.mul_le_mul_of_nonneg_left (by omega) (by omega)
    omega
theorem base_in (hS : 1 ≤ S) (h0 : 0 ≤ a) (h1 : a ≤ 1000000) {i : Nat} (hm : 0 ≤ a1 ms i ∧ a1 ms i ≤ S) : 0 ≤ baseF ms S a i ∧ baseF ms S a i ≤ 1000000 := by
  unfold baseF
  refine ⟨Int.ediv_nonneg (Int.mul_nonneg h0 hm.1) (by omega), ?_⟩
  have h2 : a * a1 ms i ≤ a * S := Int.mul_le_mul_of_nonneg_left hm.2 h0
  have h3 : a * a1 ms i / S ≤ a * S / S := Int.ediv_le_ediv (by omega) h2
  rw [Int.mul_ediv_cancel _ (by omega)] at h3
  omega
/-- where nothing is left, all is shared exactly -/
theorem ShareIs.exact {R : List Int} (h : ShareIs ms S a R) (hS : 1 ≤ S) (hall : sumF (a1 ms) 6 = S) (hz : ∀ i, i < 6 → restF ms S a i = 0) : ∀ i, i < 6 → a1 R i * S = a * a1 ms i := by
  obtain ⟨ys, _, _, e⟩ := h
  have hl := left_in (ms := ms) (a := a) hS hall
  have hs : sumF (restF ms S a) 6 = 0 := by
    have : ∀ k, k ≤ 6 → sumF (restF ms S a) k = 0 := by
      intro k
      induction k with
      | zero => intro _; rfl
      | succ k ih => intro hk; rw [sumF, ih (by omega), hz k (by omega)]; rfl
    exact this 6 (Nat.le_refl _)
  have hL : leftF ms S a 6 = 0 := by
    rw [hs] at hl
    rcases Int.mul_eq_zero.1 hl.2.2 with q | q
    · omega
    · exact q
  rw [hL] at e
  intro i hi
  have ea : a1 R i = baseF ms S a i := by
    rw [e]
    show a1 ((List.range 6).map (baseF ms S a)) i = _
    rw [← fillF_end, fillF_at _ hi, if_pos hi]
  rw [ea]
  have h2 := Int.mul_ediv_add_emod (a * a1 ms i) S
  have h3 := hz i hi
  unfold restF at h3
  unfold baseF
  rw [Int.mul_comm]
  omega
end
theorem sumF_six (ms : List Int) (h : ms.length = 6) : sumF (a1 ms) 6 = sum1 ms := by
  match ms, h with
  | [a, b, c, d, e, f], _ =>
    simp [sumF, sum1, a1]
    omega
theorem sum1_mul (a : Int) (ms : List Int) : sum1 (ms.map (· * a)) = a * sum1 ms := by
  induction ms with
  | nil => simp [sum1]
  | cons x xs ih =>
    unfold sum1 at ih ⊢
    rw [List.map_cons, List.foldr_cons, List.foldr_cons, ih, Int.mul_add, Int.mul_comm x a]
end Go.Proofs.Ytfnpkbfgemcbaaa

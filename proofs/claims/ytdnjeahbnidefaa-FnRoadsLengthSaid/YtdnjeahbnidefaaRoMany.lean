/- Plain laws: how many shortest ways there are. No program is named here. -/
import Derived.Test.YtdnjeahbnidefaaRoShort
import Derived.Test.YtdnjeahbnidefaaRoWhole
import Derived.Test.YtdnjeahbnidefaaWaLaw
namespace Go.Proofs.Ytdnjeahbnidefaa
open Go.RowKit

theorem cnt_lt {S T : Nat → Bool} (h : ∀ i, S i = true → T i = true) {j : Nat} (hj : S j = false) (hj2 : T j = true) : ∀ m, (cnt S m ≤ cnt T m) ∧ (j < m → cnt S m < cnt T m) := by
  intro m
  induction m with
  | zero => exact ⟨Nat.le_refl _, fun h => by omega⟩
  | succ m ih =>
    obtain ⟨i1, i2⟩ := ih
    rw [cnt, cnt]
    have hS : (if S m = true then 1 else 0) ≤ (if T m = true then 1 else 0) := by
      by_cases e : S m = true
      · rw [if_pos e, if_pos (h m e)]; exact Nat.le_refl _
      · rw [if_neg e]; exact Nat.zero_le _
    refine ⟨by omega, fun hm => ?_⟩
    by_cases e : j = m
    · subst e
      rw [hj, hj2]
      simp
      omega
    · have := i2 (by omega)
      omega
/-- how many towns are nearer -/
def rk (n : Nat) (rs : List (Int × Int × Int)) (b a : Nat) : Nat := cnt (fun v => decide (0 ≤ dist n rs b v) && decide (dist n rs b v < dist n rs b a)) n
def sumL (g : Nat → Int) : List Nat → Int
  | [] => 0
  | x :: xs => g x + sumL g xs
theorem sumL_append (g : Nat → Int) (xs ys : List Nat) : sumL g (xs ++ ys) = sumL g xs + sumL g ys := by
  induction xs with
  | nil => simp [sumL]
  | cons x xs ih => simp only [List.cons_append, sumL, ih]; omega
theorem sumL_congr {f g : Nat → Int} {xs : List Nat} (h : ∀ x, x ∈ xs → f x = g x) : sumL f xs = sumL g xs := by
  induction xs with
  | nil => rfl
  | cons x xs ih => rw [sumL, sumL, h x (by simp), ih (fun y hy => h y (by simp [hy]))]
theorem sumL_in {g : Nat → Int} {xs : List Nat} {M : Int} (h : ∀ x, x ∈ xs → 0 ≤ g x ∧ g x ≤ M) : 0 ≤ sumL g xs ∧ sumL g xs ≤ M * xs.length := by
  induction xs with
  | nil => simp [sumL]
  | cons x xs ih =>
    have h1 := h x (by simp)
    have h2 := ih (fun y hy => h y (by simp [hy]))
    rw [sumL, List.length_cons]
    push_cast
    rw [Int.mul_add]
    omega
theorem sumL_filter (g : Nat → Int) (p : Nat → Bool) : ∀ n, sumTo (fun v => if p v = true then g v else 0) n = sumL g ((List.range n).filter p) := by
  intro n
  induction n with
  | zero => rfl
  | succ n ih =>
    rw [sumTo, ih, List.range_succ, List.filter_append, sumL_append]
    congr 1
    cases hp : p n <;> simp [hp, sumL]
theorem sumL_idx (g : Nat → Int) (l : List Nat) : sumTo (fun i => g (l.getD i 0)) l.length = sumL g l := by
  induction l with
  | nil => rfl
  | cons x xs ih =>
    rw [List.length_cons, sumTo_first, sumL, ← ih]
    congr 1
def manyN (n : Nat) (rs : List (Int × Int × Int)) (b : Nat) : Nat → Nat → Int
  | 0, a => if a = b then 1 else 0
  | f + 1, a => if a = b then 1 else sumL (manyN n rs b f) (nxs n rs b a)
/-- how many shortest ways there are from a to b -/
def many (n : Nat) (rs : List (Int × Int × Int)) (b a : Nat) : Int := manyN n rs b 8 a
section
variable {n : Nat} {rs : List (Int × Int × Int)}
theorem RV.rk_less (h : RV n rs) {b a v : Nat} (hb : b < n) (ha : a < n) (h0 : 0 ≤ dist n rs b a) (hx : nx n rs b a v = true) : rk n rs b v < rk n rs b a := by
  obtain ⟨hv, h1, h2, _⟩ := h.nx_less hb ha h0 hx
  refine (cnt_lt (j := v) (fun i hi => ?_) ?_ ?_ n).2 hv
  · simp only [Bool.and_eq_true, decide_eq_true_eq] at hi ⊢
    omega
  · simp
  · simp only [Bool.and_eq_true, decide_eq_true_eq]
    exact ⟨h1, h2⟩
theorem rk_le (n : Nat) (rs : List (Int × Int × Int)) (b : Nat) {a : Nat} (ha : a < n) : rk n rs b a < n := by
  have := (cnt_lt (S := fun v => decide (0 ≤ dist n rs b v) && decide (dist n rs b v < dist n rs b a)) (T := fun _ => true) (j := a) (fun i _ => rfl) (by simp) rfl n).2 ha
  rw [cnt_all] at this
  exact this
theorem RV.manyN_fuel (h : RV n rs) {b : Nat} (hb : b < n) : ∀ (f g a : Nat), a < n → 0 ≤ dist n rs b a → rk n rs b a ≤ f → rk n rs b a ≤ g → manyN n rs b f a = manyN n rs b g a := by
  intro f
  induction f with
  | zero =>
    intro g a ha h0 hf _
    by_cases hab : a = b
    · subst hab
      cases g <;> simp [manyN]
    · obtain ⟨h1, h2, _⟩ := h.first_at hb ha h0 hab
      have := h.rk_less hb ha h0 h2
      omega
  | succ f ih =>
    intro g a ha h0 hf hg
    by_cases hab : a = b
    · subst hab
      cases g <;> simp [manyN]
    · obtain ⟨h1, h2, _⟩ := h.first_at hb ha h0 hab
      have hr := h.rk_less hb ha h0 h2
      cases g with
      | zero => omega
      | succ g =>
        rw [manyN, manyN, if_neg hab, if_neg hab]
        refine sumL_congr fun v hv => ?_
        obtain ⟨hvn, hx⟩ := mem_nxs.1 hv
        have := h.rk_less hb ha h0 hx
        obtain ⟨_, h3, _⟩ := h.nx_less hb ha h0 hx
        exact ih g v hvn h3 (by omega) (by omega)
theorem RV.manyN_in (h : RV n rs) {b : Nat} (hb : b < n) : ∀ (f a : Nat), a < n → 0 ≤ dist n rs b a → rk n rs b a ≤ f → 1 ≤ manyN n rs b f a ∧ manyN n rs b f a ≤ ((8 ^ f : Nat) : Int) := by
  intro f
  induction f with
  | zero =>
    intro a ha h0 hf
    by_cases hab : a = b
    · subst hab; simp [manyN]
    · obtain ⟨h1, h2, _⟩ := h.first_at hb ha h0 hab
      have := h.rk_less hb ha h0 h2
      omega
  | succ f ih =>
    intro a ha h0 hf
    have hp : 1 ≤ 8 ^ f := Nat.one_le_pow _ _ (by omega)
    have hp2 : 8 ^ (f + 1) = 8 ^ f * 8 := Nat.pow_succ 8 f
    by_cases hab : a = b
    · subst hab
      rw [manyN, if_pos rfl, hp2]
      omega
    · rw [manyN, if_neg hab]
      have hall : ∀ v, v ∈ nxs n rs b a → 1 ≤ manyN n rs b f v ∧ manyN n rs b f v ≤ ((8 ^ f : Nat) : Int) := fun v hv => by
        obtain ⟨hvn, hx⟩ := mem_nxs.1 hv
        have := h.rk_less hb ha h0 hx
        obtain ⟨_, h3, _⟩ := h.nx_less hb ha h0 hx
        exact ih v hvn h3 (by omega)
      obtain ⟨h1, h2, _, hl⟩ := h.first_at hb ha h0 hab
      have hin := sumL_in (g := manyN n rs b f) (xs := nxs n rs b a) (M := ((8 ^ f : Nat) : Int)) (fun v hv => by have := hall v hv; omega)
      have hlen := nxs_len n rs b a
      have n8 := h.n8
      constructor
      · cases hq : nxs n rs b a with
        | nil => rw [hq] at hl; simp at hl
        | cons x xs =>
          have hx := hall x (by rw [hq]; simp)
          have hxs := sumL_in (g := manyN n rs b f) (xs := xs) (M := ((8 ^ f : Nat) : Int)) (fun v hv => by have := hall v (by rw [hq]; simp [hv]); omega)
          rw [sumL]
          omega
      · have h8 : ((8 ^ f : Nat) : Int) * ((nxs n rs b a).length : Int) ≤ ((8 ^ f : Nat) : Int) * 8 := Int.mul_le_mul_of_nonneg_left (by omega) (by omega)
        rw [hp2]
        push_cast at h8 hin ⊢
        omega
theorem RV.many_in (h : RV n rs) {b a : Nat} (hb : b < n) (ha : a < n) (h0 : 0 ≤ dist n rs b a) : 1 ≤ many n rs b a ∧ many n rs b a ≤ 2097152 := by
  have hr := rk_le n rs b ha
  have n8 := h.n8
  unfold many
  rw [h.manyN_fuel hb 8 7 a ha h0 (by omega) (by omega)]
  exact h.manyN_in hb 7 a ha h0 (by omega)
theorem many_end (n : Nat) (rs : List (Int × Int × Int)) (b : Nat) : many n rs b b = 1 := by unfold many; rw [manyN, if_pos rfl]
theorem RV.many_eq (h : RV n rs) {b a : Nat} (hb : b < n) (ha : a < n) (h0 : 0 ≤ dist n rs b a) (hab : a ≠ b) : many n rs b a = sumL (many n rs b) (nxs n rs b a) := by
  have hr := rk_le n rs b ha
  have n8 := h.n8
  show manyN n rs b 8 a = _
  rw [manyN, if_neg hab]
  refine sumL_congr fun v hv => ?_
  obtain ⟨hvn, hx⟩ := mem_nxs.1 hv
  have := h.rk_less hb ha h0 hx
  obtain ⟨_, h3, _⟩ := h.nx_less hb ha h0 hx
  exact h.manyN_fuel hb 7 8 v hvn h3 (by omega) (by omega)
/-- what RoadsMany returns -/
def roadsMany (n : Int) (rs : List (Int × Int × Int)) (a b : Int) : Int := if 0 ≤ roadsFar n rs a b then many n.toNat rs b.toNat a.toNat else -1
theorem roadsMany_f {n : Int} {rs : List (Int × Int × Int)} {a b : Int} (h : roadsFar n rs a b < 0) : roadsMany n rs a b = -1 := by rw [roadsMany, if_neg (by omega)]
theorem roadsMany_t {n a b : Nat} {rs : List (Int × Int × Int)} (h : 0 ≤ roadsFar n rs a b) : roadsMany n rs a b = many n rs b a := by rw [roadsMany, if_pos h]; rfl
end
end Go.Proofs.Ytdnjeahbnidefaa

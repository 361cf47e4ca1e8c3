/- Plain laws: ways over edges, and shortest ones. No program is named here. -/
import Derived.Test.YtdnjeahbnidefaaBase
namespace Go.Proofs.Ytdnjeahbnidefaa

/-- a way of k edges between two towns below n, and its length; an edge is what has at least one mile -/
inductive Wk (e : Nat → Nat → Int) (n : Nat) : Nat → Nat → Nat → Int → Prop
  | nil {a : Nat} : a < n → Wk e n 0 a a 0
  | cons {a b c k : Nat} {L : Int} : a < n → 1 ≤ e a b → Wk e n k b c L → Wk e n (k + 1) a c (e a b + L)

section
variable {e : Nat → Nat → Int} {n : Nat}
theorem Wk.lt_l {k a c : Nat} {L : Int} (h : Wk e n k a c L) : a < n := by
  cases h with
  | nil h => exact h
  | cons h _ _ => exact h
theorem Wk.lt_r {k a c : Nat} {L : Int} (h : Wk e n k a c L) : c < n := by
  induction h with
  | nil h => exact h
  | cons _ _ _ ih => exact ih
theorem Wk.ge {k a c : Nat} {L : Int} (h : Wk e n k a c L) : (k : Int) ≤ L := by
  induction h with
  | nil h => simp
  | cons _ h1 _ ih => omega
theorem Wk.le {k a c : Nat} {L : Int} (h : Wk e n k a c L) (he : ∀ a b, e a b ≤ 99) : L ≤ 99 * k := by
  induction h with
  | nil h => simp
  | @cons a b c k L _ _ _ ih => have := he a b; omega
theorem Wk.append {k j a b c : Nat} {L M : Int} (h : Wk e n k a b L) (g : Wk e n j b c M) : Wk e n (k + j) a c (L + M) := by
  induction h with
  | nil h => rw [Nat.zero_add, Int.zero_add]; exact g
  | @cons a x b k L h1 h2 _ ih => rw [Nat.add_right_comm, Int.add_assoc]; exact .cons h1 h2 (ih g)
theorem Wk.one {a b : Nat} (ha : a < n) (hb : b < n) (h : 1 ≤ e a b) : Wk e n 1 a b (e a b) := by
  have := Wk.cons ha h (Wk.nil (e := e) hb)
  rwa [Int.add_zero] at this
theorem Wk.rev (hs : ∀ a b, e a b = e b a) {k a c : Nat} {L : Int} (h : Wk e n k a c L) : Wk e n k c a L := by
  induction h with
  | nil h => exact .nil h
  | @cons a b c k L h1 h2 h3 ih =>
    have := ih.append (Wk.one (e := e) h3.lt_l h1 (by rw [hs]; exact h2))
    rw [hs b a, Int.add_comm] at this
    exact this
theorem Wk.zero {a c k : Nat} {L : Int} (h : Wk e n k a c L) (h0 : L ≤ 0) : k = 0 ∧ a = c ∧ L = 0 := by
  have := h.ge
  cases h with
  | nil h => exact ⟨rfl, rfl, rfl⟩
  | cons _ _ _ => omega

/-- a way within a set of towns -/
inductive WkIn (e : Nat → Nat → Int) (n : Nat) (S : Nat → Bool) : Nat → Nat → Int → Prop
  | nil {a : Nat} : a < n → S a = true → WkIn e n S a a 0
  | cons {a b c : Nat} {L : Int} : a < n → S a = true → 1 ≤ e a b → WkIn e n S b c L → WkIn e n S a c (e a b + L)
theorem WkIn.of {k a c : Nat} {L : Int} (h : Wk e n k a c L) : WkIn e n (fun _ => true) a c L := by
  induction h with
  | nil h => exact .nil h rfl
  | cons h1 h2 _ ih => exact .cons h1 rfl h2 ih
theorem WkIn.ge {S : Nat → Bool} {a c : Nat} {L : Int} (h : WkIn e n S a c L) : 0 ≤ L := by
  induction h with
  | nil => exact Int.le_refl _
  | cons _ _ h _ ih => omega
theorem WkIn.at {S : Nat → Bool} {a c : Nat} {L : Int} (h : WkIn e n S a c L) : a < n ∧ S a = true := by
  cases h with
  | nil h h1 => exact ⟨h, h1⟩
  | cons h h1 _ _ => exact ⟨h, h1⟩
/-- the set without a town -/
def less (S : Nat → Bool) (v : Nat) : Nat → Bool := fun i => S i && !decide (i = v)
def cnt (S : Nat → Bool) : Nat → Nat
  | 0 => 0
  | n + 1 => cnt S n + (if S n = true then 1 else 0)
theorem cnt_less_ge (S : Nat → Bool) (v : Nat) : ∀ m, m ≤ v → cnt (less S v) m = cnt S m := by
  intro m
  induction m with
  | zero => intro _; rfl
  | succ m ih =>
    intro h
    rw [cnt, cnt, ih (by omega)]
    have : less S v m = S m := by unfold less; rw [decide_eq_false (by omega)]; simp
    rw [this]
theorem cnt_less (S : Nat → Bool) (v : Nat) (hS : S v = true) : ∀ m, v < m → cnt (less S v) m + 1 = cnt S m := by
  intro m
  induction m with
  | zero => intro h; omega
  | succ m ih =>
    intro h
    by_cases hm : v = m
    · subst hm
      have h1 : less S v v = false := by unfold less; simp
      rw [cnt, cnt, cnt_less_ge S v v (Nat.le_refl _), h1, hS]
      simp
    · have h1 : less S v m = S m := by unfold less; rw [decide_eq_false (by omega)]; simp
      rw [cnt, cnt, h1, ← ih (by omega)]
      omega
theorem cnt_all : ∀ m, cnt (fun _ => true) m = m := by
  intro m
  induction m with
  | zero => rfl
  | succ m ih => rw [cnt, ih]; simp
theorem cnt_le (S : Nat → Bool) : ∀ m, cnt S m ≤ m := by
  intro m
  induction m with
  | zero => exact Nat.le_refl _
  | succ m ih => rw [cnt]; split <;> omega
/-- behind the last time that a way is at a town it is there no more -/
theorem WkIn.last {S : Nat → Bool} {x a : Nat} {L : Int} (h : WkIn e n S x a L) (v : Nat) :
    WkIn e n (less S v) x a L ∨ v = a ∨ ∃ u M, 1 ≤ e v u ∧ WkIn e n (less S v) u a M ∧ e v u + M ≤ L := by
  induction h with
  | @nil a h h1 =>
    by_cases hv : v = a
    · exact .inr (.inl hv)
    · exact .inl (.nil h (by unfold less; rw [h1, decide_eq_false (fun e => hv e.symm)]; rfl))
  | @cons x y a L h h1 h2 h3 ih =>
    rcases ih with ih | ih | ⟨u, M, i1, i2, i3⟩
    · by_cases hv : v = x
      · subst hv
        exact .inr (.inr ⟨y, L, h2, ih, Int.le_refl _⟩)
      · exact .inl (.cons h (by unfold less; rw [h1, decide_eq_false (fun e => hv e.symm)]; rfl) h2 ih)
    · exact .inr (.inl ih)
    · exact .inr (.inr ⟨u, M, i1, i2, by omega⟩)
/-- a way can be had with fewer edges than there are towns in the set, and is no longer -/
theorem WkIn.short : ∀ (m : Nat) {S : Nat → Bool} {x a : Nat} {L : Int}, cnt S n ≤ m → WkIn e n S x a L → ∃ k M, k < m ∧ M ≤ L ∧ Wk e n k x a M := by
  intro m
  induction m with
  | zero =>
    intro S x a L hc h
    have := cnt_less S x h.at.2 n h.at.1
    omega
  | succ m ih =>
    intro S x a L hc h
    have hx := h.at
    have hl := cnt_less S x hx.2 n hx.1
    rcases h.last x with h1 | h1 | ⟨u, M, i1, i2, i3⟩
    · have := h1.at.2
      simp [less] at this
    · subst h1
      exact ⟨0, 0, by omega, h.ge, .nil hx.1⟩
    · obtain ⟨k, M', j1, j2, j3⟩ := ih (S := less S x) (by omega) i2
      exact ⟨k + 1, e x u + M', by omega, by omega, .cons hx.1 i1 j3⟩
theorem Wk.short {k x a : Nat} {L : Int} (h : Wk e n k x a L) : ∃ j M, j < n ∧ M ≤ L ∧ Wk e n j x a M :=
  WkIn.short n (by rw [cnt_all]; exact Nat.le_refl _) (WkIn.of h)

/-- the distance of two towns -/
def IsD (e : Nat → Nat → Int) (n : Nat) (a b : Nat) (d : Int) : Prop := (∃ k, Wk e n k a b d) ∧ ∀ k L, Wk e n k a b L → d ≤ L
def NoWay (e : Nat → Nat → Int) (n : Nat) (a b : Nat) : Prop := ∀ k L, ¬ Wk e n k a b L
theorem IsD.unique {a b : Nat} {d f : Int} (h : IsD e n a b d) (g : IsD e n a b f) : d = f := by
  obtain ⟨⟨k, h1⟩, h2⟩ := h
  obtain ⟨⟨j, g1⟩, g2⟩ := g
  have := h2 _ _ g1
  have := g2 _ _ h1
  omega
theorem IsD.ge {a b : Nat} {d : Int} (h : IsD e n a b d) : 0 ≤ d := by
  obtain ⟨⟨k, h1⟩, _⟩ := h
  have := h1.ge
  omega
theorem IsD.rev (hs : ∀ a b, e a b = e b a) {a b : Nat} {d : Int} (h : IsD e n a b d) : IsD e n b a d := by
  obtain ⟨⟨k, h1⟩, h2⟩ := h
  exact ⟨⟨k, h1.rev hs⟩, fun j L g => h2 j L (g.rev hs)⟩
theorem NoWay.rev (hs : ∀ a b, e a b = e b a) {a b : Nat} (h : NoWay e n a b) : NoWay e n b a := fun k L g => h k L (g.rev hs)
theorem IsD.tri {a b c : Nat} {d f g : Int} (h : IsD e n a b d) (h1 : IsD e n b c f) (h2 : IsD e n a c g) : g ≤ d + f := by
  obtain ⟨⟨k, w⟩, _⟩ := h
  obtain ⟨⟨j, v⟩, _⟩ := h1
  exact h2.2 _ _ (w.append v)
theorem IsD.self {a : Nat} (h : a < n) : IsD e n a a 0 := ⟨⟨0, .nil h⟩, fun k L g => by have := g.ge; omega⟩
theorem IsD.le {a b : Nat} {d : Int} (h : IsD e n a b d) (he : ∀ a b, e a b ≤ 99) : d ≤ 99 * n := by
  obtain ⟨⟨k, w⟩, m⟩ := h
  obtain ⟨j, M, j1, j2, j3⟩ := w.short
  have := j3.le he
  have := m _ _ j3
  omega
/-- a step ahead of the rest -/
theorem Wk.cases {k a c : Nat} {L : Int} (h : Wk e n k a c L) : (k = 0 ∧ a = c ∧ L = 0) ∨ ∃ b j M, k = j + 1 ∧ 1 ≤ e a b ∧ Wk e n j b c M ∧ L = e a b + M := by
  cases h with
  | nil h => exact .inl ⟨rfl, rfl, rfl⟩
  | @cons _ b _ j M _ h2 h3 => exact .inr ⟨b, j, M, rfl, h2, h3, rfl⟩
end
end Go.Proofs.Ytdnjeahbnidefaa

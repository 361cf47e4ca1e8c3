/- Words for memory that all texts of this seat share: what a slice value reads as, what a call hands back, lists of records as flat lists of cells. No program is named here. -/
import Derived.WalkKit
import Derived.Lib.Hide
import Derived.WalkSmall
namespace Go.Proofs.Ytckjagpjljbohaa
open Go.RowKit

/-- the slice at address A reads as the cells cs -/
def Rd (w : World) (A : Option Addr) (cs : List Value) : Prop :=
  cs ≠ [] → ∃ b off, A = some ⟨b, off, none⟩ ∧ b < w.heap.size ∧ ∀ i u, cs[i]? = some u → w.cell? ⟨b, off + i, none⟩ = some u

/-- a value comes back; what lay there is as it was -/
def Ret (w : World) (v : Value) (e : Ending) (w' : World) : Prop := e = .returned v ∧ Below w.heap.size w w'

/-- a slice of the call's own comes back -/
def RetS (w : World) (t size n : Nat) (xs : List Value) (e : Ending) (w' : World) : Prop :=
  ∃ A cap, e = .returned (.slice A n cap) ∧ w'.ownsRow w.heap.size t size (.slice A n cap) n xs ∧ Below w.heap.size w w'

/-- a slice of the call's own that is not nil comes back -/
def RetG (w : World) (t size n : Nat) (xs : List Value) (e : Ending) (w' : World) : Prop :=
  ∃ g cap, e = .returned (.slice (some ⟨g, 0, none⟩) n cap) ∧ w'.ownsRow w.heap.size t size (.slice (some ⟨g, 0, none⟩) n cap) n xs ∧ Below w.heap.size w w'

/-- a slice of the call's own and a bool come back -/
def RetSB (w : World) (t size n : Nat) (xs : List Value) (ok : Bool) (e : Ending) (w' : World) : Prop :=
  ∃ A cap, e = .returned (.tuple #[.slice A n cap, .bool ok]) ∧ w'.ownsRow w.heap.size t size (.slice A n cap) n xs ∧ Below w.heap.size w w'

section
variable {w w' : World} {A : Option Addr} {cs : List Value}
theorem Rd.nil (w : World) (A : Option Addr) : Rd w A [] := fun h => absurd rfl h
theorem Rd.below (h : Rd w A cs) {B : Nat} (hb : Below B w w') (hB : w.heap.size ≤ B) : Rd w' A cs := fun hn => by
  obtain ⟨b, off, rfl, hlt, hc⟩ := h hn
  exact ⟨b, off, rfl, Nat.lt_of_lt_of_le hlt hb.size, fun i u hu => (hb.cell (p := ⟨b, off + i, none⟩) (Nat.lt_of_lt_of_le hlt hB)).trans (hc i u hu)⟩
theorem Rd.grown (h : Rd w A cs) {row : Option Nat} (hg : w.grownBy w' row) (hr : ∀ a, A = some a → some a.block ≠ row) : Rd w' A cs := fun hn => by
  obtain ⟨b, off, rfl, hlt, hc⟩ := h hn
  exact ⟨b, off, rfl, Nat.lt_of_lt_of_le hlt hg.size, fun i u hu => hg.cell (hc i u hu) (hr ⟨b, off, none⟩ rfl)⟩
theorem Rd.alloc (h : Rd w A cs) (o : Obj) : Rd (w.alloc o) A cs := h.below ((Below.refl w.heap.size w).alloc (Nat.le_refl _) o) (Nat.le_refl _)
theorem Rd.drew (h : Rd w A cs) : Rd w.drew A cs := h
theorem Rd.of_own {base t size n cap : Nat} (h : w.ownsRow base t size (.slice A n cap) n cs) : Rd w A cs := fun hn => by
  rcases h.2 with ⟨hv, hz⟩ | ⟨g, c, cur, hv, _, hh, _⟩
  · subst hz
    exact absurd (List.eq_nil_of_length_eq_zero (by simpa using h.1)) hn
  · simp only [Value.slice.injEq] at hv
    obtain ⟨rfl, _, _⟩ := hv
    refine ⟨g, 0, rfl, (Array.getElem?_eq_some_iff.1 hh).1, fun i u hu => ?_⟩
    have := h.cells (g := g) rfl i u hu
    rw [show (⟨g, 0, none⟩ : Addr).add i = ⟨g, 0 + i, none⟩ by unfold Addr.add; split <;> simp_all] at this
    exact this
end

theorem own_below {w w' : World} {base t size n : Nat} {v : Value} {xs : List Value} (h : w.ownsRow base t size v n xs) {B : Nat} (hb : Below B w w') (hB : w.heap.size ≤ B) : w'.ownsRow base t size v n xs :=
  h.kept (row := none) ⟨hb.os, hb.tape, hb.output, hb.size, fun k hk _ => hb.block k (by omega)⟩ (by cases v.ownBlock <;> simp)
theorem own_base {w : World} {base base' t size n : Nat} {v : Value} {xs : List Value} (h : w.ownsRow base t size v n xs) (hb : base' ≤ base) : w.ownsRow base' t size v n xs := by
  refine ⟨h.1, ?_⟩
  rcases h.2 with hl | ⟨g, cap, cur, h1, h2, h3⟩
  · exact .inl hl
  · exact .inr ⟨g, cap, cur, h1, by omega, h3⟩
/-- nothing but one block, and what is new, has turned -/
theorem grown_below {w w' : World} {B : Nat} (hb : Below B w w') (hB : w.heap.size ≤ B) (row : Option Nat) : w.grownBy w' row :=
  ⟨hb.os, hb.tape, hb.output, hb.size, fun k hk _ => hb.block k (by omega)⟩

/-- the cells of a list of records -/
theorem flat_length {α : Type} (enc : α → List Value) (s : Nat) (hs : ∀ a, (enc a).length = s) (xs : List α) : (xs.flatMap enc).length = xs.length * s := by
  induction xs with
  | nil => simp
  | cons x xs ih => simp only [List.flatMap_cons, List.length_append, hs, ih, List.length_cons, Nat.succ_mul]; omega
theorem flat_get {α : Type} (enc : α → List Value) (s : Nat) (hs : ∀ a, (enc a).length = s) (xs : List α) : ∀ (k j : Nat) (x : α), xs[k]? = some x → j < s → (xs.flatMap enc)[k * s + j]? = (enc x)[j]? := by
  induction xs with
  | nil => intro k j x h; simp at h
  | cons y xs ih =>
    intro k j x h hj
    cases k with
    | zero =>
      simp at h
      subst h
      simp only [List.flatMap_cons, Nat.zero_mul, Nat.zero_add]
      rw [List.getElem?_append_left (by rw [hs]; exact hj)]
    | succ k =>
      simp only [List.getElem?_cons_succ] at h
      simp only [List.flatMap_cons]
      rw [List.getElem?_append_right (by rw [hs, Nat.succ_mul]; omega), hs]
      rw [show (k + 1) * s + j - s = k * s + j by rw [Nat.succ_mul]; omega]
      exact ih k j x h hj
theorem flat_set {α : Type} (enc : α → List Value) (s : Nat) (hs : ∀ a, (enc a).length = s) (xs : List α) : ∀ (k j : Nat) (x y : α) (u : Value), xs[k]? = some x → j < s → (enc x).set j u = enc y →
    (xs.flatMap enc).set (k * s + j) u = (xs.set k y).flatMap enc := by
  induction xs with
  | nil => intro k j x y u h; simp at h
  | cons z xs ih =>
    intro k j x y u h hj he
    cases k with
    | zero =>
      simp at h
      subst h
      simp only [List.flatMap_cons, Nat.zero_mul, Nat.zero_add, List.set_cons_zero]
      rw [List.set_append_left _ _ (by rw [hs]; exact hj), he]
    | succ k =>
      simp only [List.getElem?_cons_succ] at h
      simp only [List.flatMap_cons, List.set_cons_succ]
      rw [List.set_append_right _ _ (by rw [hs, Nat.succ_mul]; omega), hs]
      rw [show (k + 1) * s + j - s = k * s + j by rw [Nat.succ_mul]; omega]
      rw [ih k j x y u h hj he]
theorem flat_one {α : Type} (enc : α → List Value) (h1 : ∀ a, ∀ u ∈ enc a, u.oneCell' = true) (xs : List α) : ∀ u ∈ xs.flatMap enc, u.oneCell' = true := by
  intro u hu
  obtain ⟨a, _, ha⟩ := List.mem_flatMap.1 hu
  exact h1 a u ha

/-- two ints -/
def enc2 (p : Int × Int) : List Value := [.int .i64 p.1, .int .i64 p.2]
/-- three ints -/
def enc3 (p : Int × Int × Int) : List Value := [.int .i64 p.1, .int .i64 p.2.1, .int .i64 p.2.2]
/-- two ints and a bool -/
def encB (p : Int × Int × Bool) : List Value := [.int .i64 p.1, .int .i64 p.2.1, .bool p.2.2]
def enc1 (p : Int) : List Value := [.int .i64 p]
def fl2 (xs : List (Int × Int)) : List Value := xs.flatMap enc2
def fl3 (xs : List (Int × Int × Int)) : List Value := xs.flatMap enc3
def flB (xs : List (Int × Int × Bool)) : List Value := xs.flatMap encB
def fl1 (xs : List Int) : List Value := xs.flatMap enc1
/-- the k-th record's parts -/
def a2 (xs : List (Int × Int)) (k : Nat) : Int := (xs.getD k (0, 0)).1
def b2 (xs : List (Int × Int)) (k : Nat) : Int := (xs.getD k (0, 0)).2
def a3 (xs : List (Int × Int × Int)) (k : Nat) : Int := (xs.getD k (0, 0, 0)).1
def b3 (xs : List (Int × Int × Int)) (k : Nat) : Int := (xs.getD k (0, 0, 0)).2.1
def c3 (xs : List (Int × Int × Int)) (k : Nat) : Int := (xs.getD k (0, 0, 0)).2.2
def aB (xs : List (Int × Int × Bool)) (k : Nat) : Int := (xs.getD k (0, 0, false)).1
def bB (xs : List (Int × Int × Bool)) (k : Nat) : Int := (xs.getD k (0, 0, false)).2.1
def cB (xs : List (Int × Int × Bool)) (k : Nat) : Bool := (xs.getD k (0, 0, false)).2.2
def a1 (xs : List Int) (k : Nat) : Int := xs.getD k 0

theorem enc2_len (a : Int × Int) : (enc2 a).length = 2 := rfl
theorem enc3_len (a : Int × Int × Int) : (enc3 a).length = 3 := rfl
theorem encB_len (a : Int × Int × Bool) : (encB a).length = 3 := rfl
theorem enc1_len (a : Int) : (enc1 a).length = 1 := rfl
theorem fl2_len (xs : List (Int × Int)) : (fl2 xs).length = xs.length * 2 := flat_length enc2 2 enc2_len xs
theorem fl3_len (xs : List (Int × Int × Int)) : (fl3 xs).length = xs.length * 3 := flat_length enc3 3 enc3_len xs
theorem flB_len (xs : List (Int × Int × Bool)) : (flB xs).length = xs.length * 3 := flat_length encB 3 encB_len xs
theorem fl1_len (xs : List Int) : (fl1 xs).length = xs.length := by rw [fl1, flat_length enc1 1 enc1_len xs, Nat.mul_one]
theorem fl2_one (xs : List (Int × Int)) : ∀ u ∈ fl2 xs, u.oneCell' = true := flat_one enc2 (by intro a u hu; simp [enc2] at hu; rcases hu with rfl | rfl <;> rfl) xs
theorem fl3_one (xs : List (Int × Int × Int)) : ∀ u ∈ fl3 xs, u.oneCell' = true := flat_one enc3 (by intro a u hu; simp [enc3] at hu; rcases hu with rfl | rfl | rfl <;> rfl) xs
theorem flB_one (xs : List (Int × Int × Bool)) : ∀ u ∈ flB xs, u.oneCell' = true := flat_one encB (by intro a u hu; simp [encB] at hu; rcases hu with rfl | rfl | rfl <;> rfl) xs
theorem fl1_one (xs : List Int) : ∀ u ∈ fl1 xs, u.oneCell' = true := flat_one enc1 (by intro a u hu; simp [enc1] at hu; subst hu; rfl) xs
theorem getD_some {α : Type} (xs : List α) (k : Nat) (d : α) (hk : k < xs.length) : xs[k]? = some (xs.getD k d) := by simp [hk]
theorem fl2_a (xs : List (Int × Int)) (k : Nat) (hk : k < xs.length) : (fl2 xs)[k * 2]? = some (.int .i64 (a2 xs k)) := flat_get enc2 2 enc2_len xs k 0 _ (getD_some xs k (0, 0) hk) (by omega)
theorem fl2_b (xs : List (Int × Int)) (k : Nat) (hk : k < xs.length) : (fl2 xs)[k * 2 + 1]? = some (.int .i64 (b2 xs k)) := flat_get enc2 2 enc2_len xs k 1 _ (getD_some xs k (0, 0) hk) (by omega)
theorem fl3_a (xs : List (Int × Int × Int)) (k : Nat) (hk : k < xs.length) : (fl3 xs)[k * 3]? = some (.int .i64 (a3 xs k)) := flat_get enc3 3 enc3_len xs k 0 _ (getD_some xs k (0, 0, 0) hk) (by omega)
theorem fl3_b (xs : List (Int × Int × Int)) (k : Nat) (hk : k < xs.length) : (fl3 xs)[k * 3 + 1]? = some (.int .i64 (b3 xs k)) := flat_get enc3 3 enc3_len xs k 1 _ (getD_some xs k (0, 0, 0) hk) (by omega)
theorem fl3_c (xs : List (Int × Int × Int)) (k : Nat) (hk : k < xs.length) : (fl3 xs)[k * 3 + 2]? = some (.int .i64 (c3 xs k)) := flat_get enc3 3 enc3_len xs k 2 _ (getD_some xs k (0, 0, 0) hk) (by omega)
theorem flB_a (xs : List (Int × Int × Bool)) (k : Nat) (hk : k < xs.length) : (flB xs)[k * 3]? = some (.int .i64 (aB xs k)) := flat_get encB 3 encB_len xs k 0 _ (getD_some xs k (0, 0, false) hk) (by omega)
theorem flB_b (xs : List (Int × Int × Bool)) (k : Nat) (hk : k < xs.length) : (flB xs)[k * 3 + 1]? = some (.int .i64 (bB xs k)) := flat_get encB 3 encB_len xs k 1 _ (getD_some xs k (0, 0, false) hk) (by omega)
theorem flB_c (xs : List (Int × Int × Bool)) (k : Nat) (hk : k < xs.length) : (flB xs)[k * 3 + 2]? = some (.bool (cB xs k)) := flat_get encB 3 encB_len xs k 2 _ (getD_some xs k (0, 0, false) hk) (by omega)
theorem fl1_a (xs : List Int) (k : Nat) (hk : k < xs.length) : (fl1 xs)[k]? = some (.int .i64 (a1 xs k)) := by have := flat_get enc1 1 enc1_len xs k 0 _ (getD_some xs k 0 hk) (by omega); rw [Nat.mul_one, Nat.add_zero] at this; exact this
theorem ne_of_lt_len {α : Type} {xs : List α} {enc : α → List Value} {s : Nat} (hs : ∀ a, (enc a).length = s) (h0 : 0 < s) {k : Nat} (hk : k < xs.length) : xs.flatMap enc ≠ [] := by
  intro h
  have := congrArg List.length h
  rw [flat_length enc s hs] at this
  have := Nat.mul_pos (Nat.lt_of_le_of_lt (Nat.zero_le k) hk) h0
  simp at *
  omega
section
variable {w : World} {A : Option Addr}
/-- a slice of pairs that is not empty: where it lies, and its cells -/
theorem Rd.at2 {xs : List (Int × Int)} (h : Rd w A (fl2 xs)) {k : Nat} (hk : k < xs.length) : ∃ b off, A = some ⟨b, off, none⟩ ∧ b < w.heap.size ∧
    ∀ i, i < xs.length → w.cell? ⟨b, off + i * 2, none⟩ = some (.int .i64 (a2 xs i)) ∧ w.cell? ⟨b, off + i * 2 + 1, none⟩ = some (.int .i64 (b2 xs i)) := by
  obtain ⟨b, off, rfl, hb, hc⟩ := h (ne_of_lt_len enc2_len (by omega) hk)
  exact ⟨b, off, rfl, hb, fun i hi => ⟨hc _ _ (fl2_a xs i hi), by rw [Nat.add_assoc]; exact hc _ _ (fl2_b xs i hi)⟩⟩
theorem Rd.at3 {xs : List (Int × Int × Int)} (h : Rd w A (fl3 xs)) {k : Nat} (hk : k < xs.length) : ∃ b off, A = some ⟨b, off, none⟩ ∧ b < w.heap.size ∧
    ∀ i, i < xs.length → w.cell? ⟨b, off + i * 3, none⟩ = some (.int .i64 (a3 xs i)) ∧ w.cell? ⟨b, off + i * 3 + 1, none⟩ = some (.int .i64 (b3 xs i)) ∧ w.cell? ⟨b, off + i * 3 + 2, none⟩ = some (.int .i64 (c3 xs i)) := by
  obtain ⟨b, off, rfl, hb, hc⟩ := h (ne_of_lt_len enc3_len (by omega) hk)
  exact ⟨b, off, rfl, hb, fun i hi => ⟨hc _ _ (fl3_a xs i hi), by rw [Nat.add_assoc]; exact hc _ _ (fl3_b xs i hi), by rw [Nat.add_assoc]; exact hc _ _ (fl3_c xs i hi)⟩⟩
theorem Rd.atB {xs : List (Int × Int × Bool)} (h : Rd w A (flB xs)) {k : Nat} (hk : k < xs.length) : ∃ b off, A = some ⟨b, off, none⟩ ∧ b < w.heap.size ∧
    ∀ i, i < xs.length → w.cell? ⟨b, off + i * 3, none⟩ = some (.int .i64 (aB xs i)) ∧ w.cell? ⟨b, off + i * 3 + 1, none⟩ = some (.int .i64 (bB xs i)) ∧ w.cell? ⟨b, off + i * 3 + 2, none⟩ = some (.bool (cB xs i)) := by
  obtain ⟨b, off, rfl, hb, hc⟩ := h (ne_of_lt_len encB_len (by omega) hk)
  exact ⟨b, off, rfl, hb, fun i hi => ⟨hc _ _ (flB_a xs i hi), by rw [Nat.add_assoc]; exact hc _ _ (flB_b xs i hi), by rw [Nat.add_assoc]; exact hc _ _ (flB_c xs i hi)⟩⟩
theorem Rd.at1 {xs : List Int} (h : Rd w A (fl1 xs)) {k : Nat} (hk : k < xs.length) : ∃ b off, A = some ⟨b, off, none⟩ ∧ b < w.heap.size ∧
    ∀ i, i < xs.length → w.cell? ⟨b, off + i, none⟩ = some (.int .i64 (a1 xs i)) := by
  obtain ⟨b, off, rfl, hb, hc⟩ := h (ne_of_lt_len enc1_len (by omega) hk)
  exact ⟨b, off, rfl, hb, fun i hi => hc _ _ (fl1_a xs i hi)⟩
end

/-- a fact hidden from the walk -/
theorem hideIt {p : Prop} (h : p) : Hid p := h
theorem ret_int {k : IntKind} {a b : Int} (h : a = b) : Ending.returned (.int k a) = .returned (.int k b) := by rw [h]
theorem ret_bool {a b : Bool} (h : a = b) : Ending.returned (.bool a) = .returned (.bool b) := by rw [h]
theorem drop_at {α : Type} (xs : List α) (k : Nat) (d : α) (h : k < xs.length) : xs.drop k = xs.getD k d :: xs.drop (k + 1) := by
  rw [List.drop_eq_getElem_cons h]
  simp [h]
theorem drop_end {α : Type} (xs : List α) (k : Nat) (h : ¬ k < xs.length) : xs.drop k = [] := List.drop_eq_nil_of_le (by omega)

theorem eq_step {α : Type} [DecidableEq α] (xs ys : List α) (k : Nat) (d : α) (hx : k < xs.length) (hy : k < ys.length) :
    decide (xs.drop k = ys.drop k) = (decide (xs.getD k d = ys.getD k d) && decide (xs.drop (k + 1) = ys.drop (k + 1))) := by
  rw [drop_at xs k d hx, drop_at ys k d hy]
  simp
theorem eq_step2 (xs ys : List (Int × Int)) (k : Nat) (hx : k < xs.length) (hy : k < ys.length) :
    decide (xs.drop k = ys.drop k) = ((decide (a2 xs k = a2 ys k) && decide (b2 xs k = b2 ys k)) && decide (xs.drop (k + 1) = ys.drop (k + 1))) := by
  rw [eq_step xs ys k (0, 0) hx hy]
  unfold a2 b2
  congr 1
  rw [← Bool.decide_and]
  simp only [Prod.ext_iff]
theorem eq_step3 (xs ys : List (Int × Int × Int)) (k : Nat) (hx : k < xs.length) (hy : k < ys.length) :
    decide (xs.drop k = ys.drop k) = (((decide (a3 xs k = a3 ys k) && decide (b3 xs k = b3 ys k)) && decide (c3 xs k = c3 ys k)) && decide (xs.drop (k + 1) = ys.drop (k + 1))) := by
  rw [eq_step xs ys k (0, 0, 0) hx hy]
  unfold a3 b3 c3
  congr 1
  rw [← Bool.decide_and, ← Bool.decide_and]
  simp only [Prod.ext_iff, and_assoc]
theorem eq_stepB (xs ys : List (Int × Int × Bool)) (k : Nat) (hx : k < xs.length) (hy : k < ys.length) :
    decide (xs.drop k = ys.drop k) = (((decide (aB xs k = aB ys k) && decide (bB xs k = bB ys k)) && decide (cB xs k = cB ys k)) && decide (xs.drop (k + 1) = ys.drop (k + 1))) := by
  rw [eq_step xs ys k (0, 0, false) hx hy]
  unfold aB bB cB
  congr 1
  rw [← Bool.decide_and, ← Bool.decide_and]
  simp only [Prod.ext_iff, and_assoc]
theorem eq_step1 (xs ys : List Int) (k : Nat) (hx : k < xs.length) (hy : k < ys.length) :
    decide (xs.drop k = ys.drop k) = (decide (a1 xs k = a1 ys k) && decide (xs.drop (k + 1) = ys.drop (k + 1))) :=
  eq_step xs ys k 0 hx hy

theorem own_some {w : World} {base t size n cap : Nat} {A : Option Addr} {xs : List Value} (h : w.ownsRow base t size (.slice A n cap) n xs) (hn : 0 < n) : ∃ g, A = some ⟨g, 0, none⟩ ∧ base ≤ g ∧ g < w.heap.size := by
  rcases h.2 with ⟨_, hz⟩ | ⟨g, c, cur, hv, hb, hh, _⟩
  · omega
  · simp only [Value.slice.injEq] at hv
    exact ⟨g, hv.1, hb, (Array.getElem?_eq_some_iff.1 hh).1⟩
theorem only_setCell {a w : World} {g : Nat} (h : a.grownBy w (some g)) {p : Addr} (hp : p.block = g ∨ a.heap.size ≤ p.block) (u : Value) : a.grownBy (w.setCell p u) (some g) :=
  ⟨h.os, h.tape, h.output, by simpa [World.setCell] using h.size, fun i hi hne => (Below.heap_setCell w p u i (by
    rintro rfl
    rcases hp with hp | hp
    · exact hne (by rw [hp])
    · omega)).trans (h.block i hi hne)⟩

/-- the records that a mark writes -/
def mark2 (k0 : Int) (n : Nat) : List (Int × Int) := (List.range n).map fun (i : Nat) => (k0 + 2 * i, k0 + 2 * i + 1)
def mark3 (k0 : Int) (n : Nat) : List (Int × Int × Int) := (List.range n).map fun (i : Nat) => (k0 + 3 * i, k0 + 3 * i + 1, k0 + 3 * i + 2)
def mark1 (k0 : Int) (n : Nat) : List Int := (List.range n).map fun (i : Nat) => k0 + i
theorem mark2_len (k0 : Int) (n : Nat) : (mark2 k0 n).length = n := by simp [mark2]
theorem mark3_len (k0 : Int) (n : Nat) : (mark3 k0 n).length = n := by simp [mark3]
theorem mark1_len (k0 : Int) (n : Nat) : (mark1 k0 n).length = n := by simp [mark1]
theorem mark2_at (k0 : Int) (n k : Nat) (h : k < n) : a2 (mark2 k0 n) k = k0 + 2 * k ∧ b2 (mark2 k0 n) k = k0 + 2 * k + 1 := by simp [a2, b2, mark2, h]
theorem mark3_at (k0 : Int) (n k : Nat) (h : k < n) : a3 (mark3 k0 n) k = k0 + 3 * k ∧ b3 (mark3 k0 n) k = k0 + 3 * k + 1 ∧ c3 (mark3 k0 n) k = k0 + 3 * k + 2 := by simp [a3, b3, c3, mark3, h]
theorem mark1_at (k0 : Int) (n k : Nat) (h : k < n) : a1 (mark1 k0 n) k = k0 + k := by simp [a1, mark1, h]
theorem mark_set {α : Type} (f : Nat → α) (ps : List α) (k : Nat) (h : k < ps.length) : ((List.range k).map f ++ ps.drop k).set k (f k) = (List.range (k + 1)).map f ++ ps.drop (k + 1) := by
  rw [List.set_append_right _ _ (by simp)]
  rw [List.drop_eq_getElem_cons h]
  simp only [List.length_map, List.length_range, Nat.sub_self, List.set_cons_zero, List.range_succ, List.map_append, List.map_cons, List.map_nil, List.append_assoc, List.cons_append, List.nil_append]
theorem mark_len {α : Type} (f : Nat → α) (ps : List α) (k : Nat) (h : k ≤ ps.length) : ((List.range k).map f ++ ps.drop k).length = ps.length := by simp; omega
theorem row2_a {w : World} {base t g cap n : Nat} {xs : List (Int × Int)} (h : w.ownsRow base t 2 (.slice (some ⟨g, 0, none⟩) n cap) n (fl2 xs)) {k : Nat} (hk : k < xs.length) :
    w.cell? ⟨g, k * 2, none⟩ = some (.int .i64 (a2 xs k)) ∧ w.cell? ⟨g, k * 2 + 1, none⟩ = some (.int .i64 (b2 xs k)) := by
  have hl := h.1
  rw [fl2_len] at hl
  exact ⟨(h.cellAt (k * 2) (by omega)).trans (fl2_a xs k hk), (h.cellAt (k * 2 + 1) (by omega)).trans (fl2_b xs k hk)⟩
/-- a record stored into an owned row -/
theorem row2_store {w : World} {base t g cap n : Nat} {xs : List (Int × Int)} (h : w.ownsRow base t 2 (.slice (some ⟨g, 0, none⟩) n cap) n (fl2 xs)) {k : Nat} (hk : k < xs.length) (a b : Int) :
    ((w.setCell ⟨g, k * 2, none⟩ (.int .i64 a)).setCell ⟨g, k * 2 + 1, none⟩ (.int .i64 b)).ownsRow base t 2 (.slice (some ⟨g, 0, none⟩) n cap) n (fl2 (xs.set k (a, b))) := by
  have h1 := (h.stored (k * 2) (.int .i64 a)).1
  have h2 := (h1.stored (k * 2 + 1) (.int .i64 b)).1
  have e1 : (fl2 xs).set (k * 2) (.int .i64 a) = fl2 (xs.set k (a, b2 xs k)) :=
    flat_set enc2 2 enc2_len xs k 0 _ _ _ (getD_some xs k (0, 0) hk) (by omega) rfl
  rw [e1] at h2
  have e2 : (fl2 (xs.set k (a, b2 xs k))).set (k * 2 + 1) (.int .i64 b) = fl2 ((xs.set k (a, b2 xs k)).set k (a, b)) :=
    flat_set enc2 2 enc2_len _ k 1 (a, b2 xs k) _ _ (by rw [List.getElem?_set_self hk]) (by omega) rfl
  rw [e2, List.set_set] at h2
  exact h2

theorem row1_a {w : World} {base t g cap n : Nat} {xs : List Int} (h : w.ownsRow base t 1 (.slice (some ⟨g, 0, none⟩) n cap) n (fl1 xs)) {k : Nat} (hk : k < xs.length) :
    w.cell? ⟨g, k, none⟩ = some (.int .i64 (a1 xs k)) := by
  have hl := h.1
  rw [fl1_len] at hl
  exact (h.cellAt k (by omega)).trans (fl1_a xs k hk)
theorem fl1_set (xs : List Int) (k : Nat) (v : Int) (hk : k < xs.length) : (fl1 xs).set k (.int .i64 v) = fl1 (xs.set k v) := by
  have := flat_set enc1 1 enc1_len xs k 0 _ v (.int .i64 v) (getD_some xs k 0 hk) (by omega) rfl
  rw [Nat.mul_one, Nat.add_zero] at this
  exact this
theorem row1_store {w : World} {base t g cap n : Nat} {xs : List Int} (h : w.ownsRow base t 1 (.slice (some ⟨g, 0, none⟩) n cap) n (fl1 xs)) {k : Nat} (hk : k < xs.length) (v : Int) :
    (w.setCell ⟨g, k, none⟩ (.int .i64 v)).ownsRow base t 1 (.slice (some ⟨g, 0, none⟩) n cap) n (fl1 (xs.set k v)) := by
  have h1 := (h.stored k (.int .i64 v)).1
  rw [fl1_set xs k v hk] at h1
  exact h1
theorem row_len {α : Type} {en : α → List Value} {s : Nat} (hs : ∀ a, (en a).length = s) (hpos : 0 < s) {w : World} {base t n : Nat} {v : Value} {xs : List α} (h : w.ownsRow base t s v n (xs.flatMap en)) : xs.length = n := by
  have := h.1
  rw [flat_length en s hs] at this
  exact Nat.eq_of_mul_eq_mul_right hpos this
theorem made1 (n : Nat) : (madeCells #[.int .i64 0] (n * 1)).toList = fl1 (List.replicate n 0) := by
  rw [Nat.mul_one, toList_madeCells_one, fl1]
  induction n with
  | zero => rfl
  | succ n ih => rw [List.replicate_succ, List.replicate_succ, List.flatMap_cons, ← ih]; rfl

theorem add_plain (b off i : Nat) : (⟨b, off, none⟩ : Addr).add i = ⟨b, off + i, none⟩ := by unfold Addr.add; split <;> simp_all
theorem Rd.news {w : World} {a : Addr} {cs : List Value} (h : Rd w (some a) cs) : ∀ j u, cs[j]? = some u → w.cell? (a.add j) = some u := by
  intro j u hu
  have hne : cs ≠ [] := by intro h0; subst h0; simp at hu
  obtain ⟨b, off, ha, _, hc⟩ := h hne
  simp only [Option.some.injEq] at ha
  subst ha
  rw [add_plain]
  exact hc j u hu
/-- the list turned round at both ends up to i -/
def revTo {α : Type} (d : α) (ps : List α) (i : Nat) : List α := (List.range ps.length).map fun m => if m < i ∨ ps.length - 1 - m < i then ps.getD (ps.length - 1 - m) d else ps.getD m d
theorem revTo_len {α : Type} (d : α) (ps : List α) (i : Nat) : (revTo d ps i).length = ps.length := by simp [revTo]
theorem revTo_zero {α : Type} (d : α) (ps : List α) : revTo d ps 0 = ps := by
  apply List.ext_getElem
  · simp [revTo]
  · intro k h1 h2
    simp [revTo, h2]
theorem revTo_end {α : Type} (d : α) (ps : List α) (i : Nat) (h : ps.length ≤ 2 * i + 1) : revTo d ps i = ps.reverse := by
  apply List.ext_getElem
  · simp [revTo]
  · intro k h1 h2
    simp only [List.length_reverse] at h2
    simp only [revTo, List.getElem_map, List.getElem_range, List.getElem_reverse]
    by_cases hm : k < i ∨ ps.length - 1 - k < i
    · rw [if_pos hm, List.getD_eq_getElem?_getD, List.getElem?_eq_getElem (by omega)]
      rfl
    · rw [if_neg hm]
      have : ps.length - 1 - k = k := by omega
      simp [h2, this]
theorem revTo_at {α : Type} (d : α) (ps : List α) (i k : Nat) (h1 : i ≤ k) (h2 : k + i < ps.length) : (revTo d ps i).getD k d = ps.getD k d := by
  have hk : k < ps.length := by omega
  rw [List.getD_eq_getElem?_getD, revTo, List.getElem?_map, List.getElem?_range hk]
  simp only [Option.map_some, Option.getD_some]
  rw [if_neg (by omega)]
theorem revTo_set {α : Type} (d : α) (ps : List α) (i : Nat) (h : 2 * i + 1 < ps.length) :
    ((revTo d ps i).set i (ps.getD (ps.length - 1 - i) d)).set (ps.length - 1 - i) (ps.getD i d) = revTo d ps (i + 1) := by
  apply List.ext_getElem?
  intro m
  by_cases hm : m < ps.length
  · by_cases e1 : ps.length - 1 - i = m
    · subst e1
      rw [List.getElem?_set_self (by simp [revTo]; omega)]
      simp only [revTo, List.getElem?_map, List.getElem?_range hm, Option.map_some]
      rw [if_pos (by omega), show ps.length - 1 - (ps.length - 1 - i) = i by omega]
    · rw [List.getElem?_set_ne e1]
      by_cases e2 : i = m
      · subst e2
        rw [List.getElem?_set_self (by simp [revTo]; omega)]
        simp only [revTo, List.getElem?_map, List.getElem?_range hm, Option.map_some]
        rw [if_pos (by omega)]
      · rw [List.getElem?_set_ne e2]
        simp only [revTo, List.getElem?_map, List.getElem?_range hm, Option.map_some]
        by_cases h3 : m < i ∨ ps.length - 1 - m < i
        · rw [if_pos h3, if_pos (by omega)]
        · rw [if_neg h3, if_neg (by omega)]
  · rw [List.getElem?_eq_none (by simp [revTo]; omega), List.getElem?_eq_none (by simp [revTo]; omega)]
theorem rev_snoc {α : Type} (d : α) (ps : List α) (k : Nat) (h : k < ps.length) : ps.reverse.take (k + 1) = ps.reverse.take k ++ [ps.getD (ps.length - 1 - k) d] := by
  rw [List.take_succ_eq_append_getElem (by simpa using h)]
  congr 2
  rw [List.getElem_reverse, List.getD_eq_getElem?_getD, List.getElem?_eq_getElem (by omega)]
  rfl
theorem take_snoc' {α : Type} (d : α) (ps : List α) (k : Nat) (h : k < ps.length) : ps.take (k + 1) = ps.take k ++ [ps.getD k d] := by
  rw [List.take_succ_eq_append_getElem h]
  simp [h]
/-- a block that is made with nothing in it is a row of the call's own -/
theorem own_empty (w : World) (t size : Nat) : (w.alloc (.cells #[] t)).ownsRow w.heap.size t size (.slice (some ⟨w.heap.size, 0, none⟩) 0 0) 0 [] :=
  World.ownsRow_lit w #[] 0 (Nat.le_refl _) (by unfold maxLen; omega) (by simp)
theorem own_form {w : World} {base t size n : Nat} {v : Value} {xs : List Value} (h : w.ownsRow base t size v n xs) : ∃ A cap, v = .slice A n cap := by
  rcases h.2 with ⟨rfl, rfl⟩ | ⟨g, c, cur, hv, _⟩
  · exact ⟨_, _, rfl⟩
  · exact ⟨_, _, hv⟩
theorem own_apart_l {v v' : Value} {B : Nat} (h : ∀ k, v.ownBlock = some k → k < B) (h' : ∀ k, v'.ownBlock = some k → B ≤ k) : v.ownBlock = none ∨ v.ownBlock ≠ v'.ownBlock := by
  cases hv : v.ownBlock with
  | none => exact .inl rfl
  | some k => exact .inr (fun e => by have := h k hv; have := h' k e.symm; omega)
theorem own_apart_r {v v' : Value} {B : Nat} (h' : ∀ k, v'.ownBlock = some k → k < B) (h : ∀ k, v.ownBlock = some k → B ≤ k) : v.ownBlock = none ∨ v.ownBlock ≠ v'.ownBlock := by
  cases hv : v.ownBlock with
  | none => exact .inl rfl
  | some k => exact .inr (fun e => by have := h k hv; have := h' k e.symm; omega)
end Go.Proofs.Ytckjagpjljbohaa

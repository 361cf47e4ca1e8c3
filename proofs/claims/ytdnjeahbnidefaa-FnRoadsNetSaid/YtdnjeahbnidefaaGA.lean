/- Texts of mine in one: Base, Pigeon, RoWay, RoFar, RoCn, RoNet, RoTree, RoMap, Heap, RoDij, RoWayLen, Parts, L6, Step, RcRoad. -/
import Derived.WalkKit
import Derived.Lib.Hide
import Derived.WalkSmall
import Derived.Test.YtdnjeahbnidefaaProg
import Derived.Deep.RegionHeld3
import Derived.Deep.AppendLies
/- Words for memory that all texts of this seat share: what a slice value reads as, what a call hands back, lists of records as flat lists of cells. No program is named here. -/
namespace Go.Proofs.Ytdnjeahbnidefaa
open Go.RowKit

/-- the slice at address A reads as the cells cs -/
def Rd (w : World) (A : Option Addr) (cs : List Value) : Prop :=
  cs ≠ [] → ∃ b off, A = some ⟨b, off, none⟩ ∧ b < w.heap.size ∧ ∀ i u, cs[i]? = some u → w.cell? ⟨b, off + i, none⟩ = some u

/-- a value comes back; what lay there is as it was -/
def Ret (w : World) (v : Value) (e : Ending) (w' : World) : Prop := e = .returned v ∧ Below w.heap.size w w'

/-- a slice of the call's own comes back -/
def RetS (w : World) (t size n : Nat) (xs : List Value) (e : Ending) (w' : World) : Prop :=
  ∃ A cap, e = .returned (.slice A n cap) ∧ w'.ownsRow w.heap.size t size (.slice A n cap) n xs ∧ Below w.heap.size w w'

/-- a slice of the call's own that is not nil comes back -/
def RetG (w : World) (t size n : Nat) (xs : List Value) (e : Ending) (w' : World) : Prop :=
  ∃ g cap, e = .returned (.slice (some ⟨g, 0, none⟩) n cap) ∧ w'.ownsRow w.heap.size t size (.slice (some ⟨g, 0, none⟩) n cap) n xs ∧ Below w.heap.size w w'

/-- a slice of the call's own and a bool come back -/
def RetSB (w : World) (t size n : Nat) (xs : List Value) (ok : Bool) (e : Ending) (w' : World) : Prop :=
  ∃ A cap, e = .returned (.tuple #[.slice A n cap, .bool ok]) ∧ w'.ownsRow w.heap.size t size (.slice A n cap) n xs ∧ Below w.heap.size w w'

section
variable {w w' : World} {A : Option Addr} {cs : List Value}
theorem Rd.nil (w : World) (A : Option Addr) : Rd w A [] := fun h => absurd rfl h
theorem Rd.below (h : Rd w A cs) {B : Nat} (hb : Below B w w') (hB : w.heap.size ≤ B) : Rd w' A cs := fun hn => by
  obtain ⟨b, off, rfl, hlt, hc⟩ := h hn
  exact ⟨b, off, rfl, Nat.lt_of_lt_of_le hlt hb.size, fun i u hu => (hb.cell (p := ⟨b, off + i, none⟩) (Nat.lt_of_lt_of_le hlt hB)).trans (hc i u hu)⟩
theorem Rd.grown (h : Rd w A cs) {row : Option Nat} (hg : w.grownBy w' row) (hr : ∀ a, A = some a → some a.block ≠ row) : Rd w' A cs := fun hn => by
  obtain ⟨b, off, rfl, hlt, hc⟩ := h hn
  exact ⟨b, off, rfl, Nat.lt_of_lt_of_le hlt hg.size, fun i u hu => hg.cell (hc i u hu) (hr ⟨b, off, none⟩ rfl)⟩
theorem Rd.alloc (h : Rd w A cs) (o : Obj) : Rd (w.alloc o) A cs := h.below ((Below.refl w.heap.size w).alloc (Nat.le_refl _) o) (Nat.le_refl _)
theorem Rd.drew (h : Rd w A cs) : Rd w.drew A cs := h
theorem Rd.of_own {base t size n cap : Nat} (h : w.ownsRow base t size (.slice A n cap) n cs) : Rd w A cs := fun hn => by
  rcases h.2 with ⟨hv, hz⟩ | ⟨g, c, cur, hv, _, hh, _⟩
  · subst hz
    exact absurd (List.eq_nil_of_length_eq_zero (by simpa using h.1)) hn
  · simp only [Value.slice.injEq] at hv
    obtain ⟨rfl, _, _⟩ := hv
    refine ⟨g, 0, rfl, (Array.getElem?_eq_some_iff.1 hh).1, fun i u hu => ?_⟩
    have := h.cells (g := g) rfl i u hu
    rw [show (⟨g, 0, none⟩ : Addr).add i = ⟨g, 0 + i, none⟩ by unfold Addr.add; split <;> simp_all] at this
    exact this
end

theorem own_below {w w' : World} {base t size n : Nat} {v : Value} {xs : List Value} (h : w.ownsRow base t size v n xs) {B : Nat} (hb : Below B w w') (hB : w.heap.size ≤ B) : w'.ownsRow base t size v n xs :=
  h.kept (row := none) ⟨hb.os, hb.tape, hb.output, hb.size, fun k hk _ => hb.block k (by omega)⟩ (by cases v.ownBlock <;> simp)
theorem own_base {w : World} {base base' t size n : Nat} {v : Value} {xs : List Value} (h : w.ownsRow base t size v n xs) (hb : base' ≤ base) : w.ownsRow base' t size v n xs := by
  refine ⟨h.1, ?_⟩
  rcases h.2 with hl | ⟨g, cap, cur, h1, h2, h3⟩
  · exact .inl hl
  · exact .inr ⟨g, cap, cur, h1, by omega, h3⟩
/-- nothing but one block, and what is new, has turned -/
theorem grown_below {w w' : World} {B : Nat} (hb : Below B w w') (hB : w.heap.size ≤ B) (row : Option Nat) : w.grownBy w' row :=
  ⟨hb.os, hb.tape, hb.output, hb.size, fun k hk _ => hb.block k (by omega)⟩

/-- the cells of a list of records -/
theorem flat_length {α : Type} (enc : α → List Value) (s : Nat) (hs : ∀ a, (enc a).length = s) (xs : List α) : (xs.flatMap enc).length = xs.length * s := by
  induction xs with
  | nil => simp
  | cons x xs ih => simp only [List.flatMap_cons, List.length_append, hs, ih, List.length_cons, Nat.succ_mul]; omega
theorem flat_get {α : Type} (enc : α → List Value) (s : Nat) (hs : ∀ a, (enc a).length = s) (xs : List α) : ∀ (k j : Nat) (x : α), xs[k]? = some x → j < s → (xs.flatMap enc)[k * s + j]? = (enc x)[j]? := by
  induction xs with
  | nil => intro k j x h; simp at h
  | cons y xs ih =>
    intro k j x h hj
    cases k with
    | zero =>
      simp at h
      subst h
      simp only [List.flatMap_cons, Nat.zero_mul, Nat.zero_add]
      rw [List.getElem?_append_left (by rw [hs]; exact hj)]
    | succ k =>
      simp only [List.getElem?_cons_succ] at h
      simp only [List.flatMap_cons]
      rw [List.getElem?_append_right (by rw [hs, Nat.succ_mul]; omega), hs]
      rw [show (k + 1) * s + j - s = k * s + j by rw [Nat.succ_mul]; omega]
      exact ih k j x h hj
theorem flat_set {α : Type} (enc : α → List Value) (s : Nat) (hs : ∀ a, (enc a).length = s) (xs : List α) : ∀ (k j : Nat) (x y : α) (u : Value), xs[k]? = some x → j < s → (enc x).set j u = enc y →
    (xs.flatMap enc).set (k * s + j) u = (xs.set k y).flatMap enc := by
  induction xs with
  | nil => intro k j x y u h; simp at h
  | cons z xs ih =>
    intro k j x y u h hj he
    cases k with
    | zero =>
      simp at h
      subst h
      simp only [List.flatMap_cons, Nat.zero_mul, Nat.zero_add, List.set_cons_zero]
      rw [List.set_append_left _ _ (by rw [hs]; exact hj), he]
    | succ k =>
      simp only [List.getElem?_cons_succ] at h
      simp only [List.flatMap_cons, List.set_cons_succ]
      rw [List.set_append_right _ _ (by rw [hs, Nat.succ_mul]; omega), hs]
      rw [show (k + 1) * s + j - s = k * s + j by rw [Nat.succ_mul]; omega]
      rw [ih k j x y u h hj he]
theorem flat_one {α : Type} (enc : α → List Value) (h1 : ∀ a, ∀ u ∈ enc a, u.oneCell' = true) (xs : List α) : ∀ u ∈ xs.flatMap enc, u.oneCell' = true := by
  intro u hu
  obtain ⟨a, _, ha⟩ := List.mem_flatMap.1 hu
  exact h1 a u ha

/-- two ints -/
def enc2 (p : Int × Int) : List Value := [.int .i64 p.1, .int .i64 p.2]
/-- three ints -/
def enc3 (p : Int × Int × Int) : List Value := [.int .i64 p.1, .int .i64 p.2.1, .int .i64 p.2.2]
/-- two ints and a bool -/
def encB (p : Int × Int × Bool) : List Value := [.int .i64 p.1, .int .i64 p.2.1, .bool p.2.2]
def enc1 (p : Int) : List Value := [.int .i64 p]
def fl2 (xs : List (Int × Int)) : List Value := xs.flatMap enc2
def fl3 (xs : List (Int × Int × Int)) : List Value := xs.flatMap enc3
def flB (xs : List (Int × Int × Bool)) : List Value := xs.flatMap encB
def fl1 (xs : List Int) : List Value := xs.flatMap enc1
/-- the k-th record's parts -/
def a2 (xs : List (Int × Int)) (k : Nat) : Int := (xs.getD k (0, 0)).1
def b2 (xs : List (Int × Int)) (k : Nat) : Int := (xs.getD k (0, 0)).2
def a3 (xs : List (Int × Int × Int)) (k : Nat) : Int := (xs.getD k (0, 0, 0)).1
def b3 (xs : List (Int × Int × Int)) (k : Nat) : Int := (xs.getD k (0, 0, 0)).2.1
def c3 (xs : List (Int × Int × Int)) (k : Nat) : Int := (xs.getD k (0, 0, 0)).2.2
def aB (xs : List (Int × Int × Bool)) (k : Nat) : Int := (xs.getD k (0, 0, false)).1
def bB (xs : List (Int × Int × Bool)) (k : Nat) : Int := (xs.getD k (0, 0, false)).2.1
def cB (xs : List (Int × Int × Bool)) (k : Nat) : Bool := (xs.getD k (0, 0, false)).2.2
def a1 (xs : List Int) (k : Nat) : Int := xs.getD k 0

theorem enc2_len (a : Int × Int) : (enc2 a).length = 2 := rfl
theorem enc3_len (a : Int × Int × Int) : (enc3 a).length = 3 := rfl
theorem encB_len (a : Int × Int × Bool) : (encB a).length = 3 := rfl
theorem enc1_len (a : Int) : (enc1 a).length = 1 := rfl
theorem fl2_len (xs : List (Int × Int)) : (fl2 xs).length = xs.length * 2 := flat_length enc2 2 enc2_len xs
theorem fl3_len (xs : List (Int × Int × Int)) : (fl3 xs).length = xs.length * 3 := flat_length enc3 3 enc3_len xs
theorem flB_len (xs : List (Int × Int × Bool)) : (flB xs).length = xs.length * 3 := flat_length encB 3 encB_len xs
theorem fl1_len (xs : List Int) : (fl1 xs).length = xs.length := by rw [fl1, flat_length enc1 1 enc1_len xs, Nat.mul_one]
theorem fl2_one (xs : List (Int × Int)) : ∀ u ∈ fl2 xs, u.oneCell' = true := flat_one enc2 (by intro a u hu; simp [enc2] at hu; rcases hu with rfl | rfl <;> rfl) xs
theorem fl3_one (xs : List (Int × Int × Int)) : ∀ u ∈ fl3 xs, u.oneCell' = true := flat_one enc3 (by intro a u hu; simp [enc3] at hu; rcases hu with rfl | rfl | rfl <;> rfl) xs
theorem flB_one (xs : List (Int × Int × Bool)) : ∀ u ∈ flB xs, u.oneCell' = true := flat_one encB (by intro a u hu; simp [encB] at hu; rcases hu with rfl | rfl | rfl <;> rfl) xs
theorem fl1_one (xs : List Int) : ∀ u ∈ fl1 xs, u.oneCell' = true := flat_one enc1 (by intro a u hu; simp [enc1] at hu; subst hu; rfl) xs
theorem getD_some {α : Type} (xs : List α) (k : Nat) (d : α) (hk : k < xs.length) : xs[k]? = some (xs.getD k d) := by simp [hk]
theorem fl2_a (xs : List (Int × Int)) (k : Nat) (hk : k < xs.length) : (fl2 xs)[k * 2]? = some (.int .i64 (a2 xs k)) := flat_get enc2 2 enc2_len xs k 0 _ (getD_some xs k (0, 0) hk) (by omega)
theorem fl2_b (xs : List (Int × Int)) (k : Nat) (hk : k < xs.length) : (fl2 xs)[k * 2 + 1]? = some (.int .i64 (b2 xs k)) := flat_get enc2 2 enc2_len xs k 1 _ (getD_some xs k (0, 0) hk) (by omega)
theorem fl3_a (xs : List (Int × Int × Int)) (k : Nat) (hk : k < xs.length) : (fl3 xs)[k * 3]? = some (.int .i64 (a3 xs k)) := flat_get enc3 3 enc3_len xs k 0 _ (getD_some xs k (0, 0, 0) hk) (by omega)
theorem fl3_b (xs : List (Int × Int × Int)) (k : Nat) (hk : k < xs.length) : (fl3 xs)[k * 3 + 1]? = some (.int .i64 (b3 xs k)) := flat_get enc3 3 enc3_len xs k 1 _ (getD_some xs k (0, 0, 0) hk) (by omega)
theorem fl3_c (xs : List (Int × Int × Int)) (k : Nat) (hk : k < xs.length) : (fl3 xs)[k * 3 + 2]? = some (.int .i64 (c3 xs k)) := flat_get enc3 3 enc3_len xs k 2 _ (getD_some xs k (0, 0, 0) hk) (by omega)
theorem flB_a (xs : List (Int × Int × Bool)) (k : Nat) (hk : k < xs.length) : (flB xs)[k * 3]? = some (.int .i64 (aB xs k)) := flat_get encB 3 encB_len xs k 0 _ (getD_some xs k (0, 0, false) hk) (by omega)
theorem flB_b (xs : List (Int × Int × Bool)) (k : Nat) (hk : k < xs.length) : (flB xs)[k * 3 + 1]? = some (.int .i64 (bB xs k)) := flat_get encB 3 encB_len xs k 1 _ (getD_some xs k (0, 0, false) hk) (by omega)
theorem flB_c (xs : List (Int × Int × Bool)) (k : Nat) (hk : k < xs.length) : (flB xs)[k * 3 + 2]? = some (.bool (cB xs k)) := flat_get encB 3 encB_len xs k 2 _ (getD_some xs k (0, 0, false) hk) (by omega)
theorem fl1_a (xs : List Int) (k : Nat) (hk : k < xs.length) : (fl1 xs)[k]? = some (.int .i64 (a1 xs k)) := by have := flat_get enc1 1 enc1_len xs k 0 _ (getD_some xs k 0 hk) (by omega); rw [Nat.mul_one, Nat.add_zero] at this; exact this
theorem ne_of_lt_len {α : Type} {xs : List α} {enc : α → List Value} {s : Nat} (hs : ∀ a, (enc a).length = s) (h0 : 0 < s) {k : Nat} (hk : k < xs.length) : xs.flatMap enc ≠ [] := by
  intro h
  have := congrArg List.length h
  rw [flat_length enc s hs] at this
  have := Nat.mul_pos (Nat.lt_of_le_of_lt (Nat.zero_le k) hk) h0
  simp at *
  omega
section
variable {w : World} {A : Option Addr}
/-- a slice of pairs that is not empty: where it lies, and its cells -/
theorem Rd.at2 {xs : List (Int × Int)} (h : Rd w A (fl2 xs)) {k : Nat} (hk : k < xs.length) : ∃ b off, A = some ⟨b, off, none⟩ ∧ b < w.heap.size ∧
    ∀ i, i < xs.length → w.cell? ⟨b, off + i * 2, none⟩ = some (.int .i64 (a2 xs i)) ∧ w.cell? ⟨b, off + i * 2 + 1, none⟩ = some (.int .i64 (b2 xs i)) := by
  obtain ⟨b, off, rfl, hb, hc⟩ := h (ne_of_lt_len enc2_len (by omega) hk)
  exact ⟨b, off, rfl, hb, fun i hi => ⟨hc _ _ (fl2_a xs i hi), by rw [Nat.add_assoc]; exact hc _ _ (fl2_b xs i hi)⟩⟩
theorem Rd.at3 {xs : List (Int × Int × Int)} (h : Rd w A (fl3 xs)) {k : Nat} (hk : k < xs.length) : ∃ b off, A = some ⟨b, off, none⟩ ∧ b < w.heap.size ∧
    ∀ i, i < xs.length → w.cell? ⟨b, off + i * 3, none⟩ = some (.int .i64 (a3 xs i)) ∧ w.cell? ⟨b, off + i * 3 + 1, none⟩ = some (.int .i64 (b3 xs i)) ∧ w.cell? ⟨b, off + i * 3 + 2, none⟩ = some (.int .i64 (c3 xs i)) := by
  obtain ⟨b, off, rfl, hb, hc⟩ := h (ne_of_lt_len enc3_len (by omega) hk)
  exact ⟨b, off, rfl, hb, fun i hi => ⟨hc _ _ (fl3_a xs i hi), by rw [Nat.add_assoc]; exact hc _ _ (fl3_b xs i hi), by rw [Nat.add_assoc]; exact hc _ _ (fl3_c xs i hi)⟩⟩
theorem Rd.atB {xs : List (Int × Int × Bool)} (h : Rd w A (flB xs)) {k : Nat} (hk : k < xs.length) : ∃ b off, A = some ⟨b, off, none⟩ ∧ b < w.heap.size ∧
    ∀ i, i < xs.length → w.cell? ⟨b, off + i * 3, none⟩ = some (.int .i64 (aB xs i)) ∧ w.cell? ⟨b, off + i * 3 + 1, none⟩ = some (.int .i64 (bB xs i)) ∧ w.cell? ⟨b, off + i * 3 + 2, none⟩ = some (.bool (cB xs i)) := by
  obtain ⟨b, off, rfl, hb, hc⟩ := h (ne_of_lt_len encB_len (by omega) hk)
  exact ⟨b, off, rfl, hb, fun i hi => ⟨hc _ _ (flB_a xs i hi), by rw [Nat.add_assoc]; exact hc _ _ (flB_b xs i hi), by rw [Nat.add_assoc]; exact hc _ _ (flB_c xs i hi)⟩⟩
theorem Rd.at1 {xs : List Int} (h : Rd w A (fl1 xs)) {k : Nat} (hk : k < xs.length) : ∃ b off, A = some ⟨b, off, none⟩ ∧ b < w.heap.size ∧
    ∀ i, i < xs.length → w.cell? ⟨b, off + i, none⟩ = some (.int .i64 (a1 xs i)) := by
  obtain ⟨b, off, rfl, hb, hc⟩ := h (ne_of_lt_len enc1_len (by omega) hk)
  exact ⟨b, off, rfl, hb, fun i hi => hc _ _ (fl1_a xs i hi)⟩
end

/-- a fact hidden from the walk -/
theorem hideIt {p : Prop} (h : p) : Hid p := h
theorem ret_int {k : IntKind} {a b : Int} (h : a = b) : Ending.returned (.int k a) = .returned (.int k b) := by rw [h]
theorem ret_bool {a b : Bool} (h : a = b) : Ending.returned (.bool a) = .returned (.bool b) := by rw [h]
theorem drop_at {α : Type} (xs : List α) (k : Nat) (d : α) (h : k < xs.length) : xs.drop k = xs.getD k d :: xs.drop (k + 1) := by
  rw [List.drop_eq_getElem_cons h]
  simp [h]
theorem drop_end {α : Type} (xs : List α) (k : Nat) (h : ¬ k < xs.length) : xs.drop k = [] := List.drop_eq_nil_of_le (by omega)

theorem eq_step {α : Type} [DecidableEq α] (xs ys : List α) (k : Nat) (d : α) (hx : k < xs.length) (hy : k < ys.length) :
    decide (xs.drop k = ys.drop k) = (decide (xs.getD k d = ys.getD k d) && decide (xs.drop (k + 1) = ys.drop (k + 1))) := by
  rw [drop_at xs k d hx, drop_at ys k d hy]
  simp
theorem eq_step2 (xs ys : List (Int × Int)) (k : Nat) (hx : k < xs.length) (hy : k < ys.length) :
    decide (xs.drop k = ys.drop k) = ((decide (a2 xs k = a2 ys k) && decide (b2 xs k = b2 ys k)) && decide (xs.drop (k + 1) = ys.drop (k + 1))) := by
  rw [eq_step xs ys k (0, 0) hx hy]
  unfold a2 b2
  congr 1
  rw [← Bool.decide_and]
  simp only [Prod.ext_iff]
theorem eq_step3 (xs ys : List (Int × Int × Int)) (k : Nat) (hx : k < xs.length) (hy : k < ys.length) :
    decide (xs.drop k = ys.drop k) = (((decide (a3 xs k = a3 ys k) && decide (b3 xs k = b3 ys k)) && decide (c3 xs k = c3 ys k)) && decide (xs.drop (k + 1) = ys.drop (k + 1))) := by
  rw [eq_step xs ys k (0, 0, 0) hx hy]
  unfold a3 b3 c3
  congr 1
  rw [← Bool.decide_and, ← Bool.decide_and]
  simp only [Prod.ext_iff, and_assoc]
theorem eq_stepB (xs ys : List (Int × Int × Bool)) (k : Nat) (hx : k < xs.length) (hy : k < ys.length) :
    decide (xs.drop k = ys.drop k) = (((decide (aB xs k = aB ys k) && decide (bB xs k = bB ys k)) && decide (cB xs k = cB ys k)) && decide (xs.drop (k + 1) = ys.drop (k + 1))) := by
  rw [eq_step xs ys k (0, 0, false) hx hy]
  unfold aB bB cB
  congr 1
  rw [← Bool.decide_and, ← Bool.decide_and]
  simp only [Prod.ext_iff, and_assoc]
theorem eq_step1 (xs ys : List Int) (k : Nat) (hx : k < xs.length) (hy : k < ys.length) :
    decide (xs.drop k = ys.drop k) = (decide (a1 xs k = a1 ys k) && decide (xs.drop (k + 1) = ys.drop (k + 1))) :=
  eq_step xs ys k 0 hx hy

theorem own_some {w : World} {base t size n cap : Nat} {A : Option Addr} {xs : List Value} (h : w.ownsRow base t size (.slice A n cap) n xs) (hn : 0 < n) : ∃ g, A = some ⟨g, 0, none⟩ ∧ base ≤ g ∧ g < w.heap.size := by
  rcases h.2 with ⟨_, hz⟩ | ⟨g, c, cur, hv, hb, hh, _⟩
  · omega
  · simp only [Value.slice.injEq] at hv
    exact ⟨g, hv.1, hb, (Array.getElem?_eq_some_iff.1 hh).1⟩
theorem only_setCell {a w : World} {g : Nat} (h : a.grownBy w (some g)) {p : Addr} (hp : p.block = g ∨ a.heap.size ≤ p.block) (u : Value) : a.grownBy (w.setCell p u) (some g) :=
  ⟨h.os, h.tape, h.output, by simpa [World.setCell] using h.size, fun i hi hne => (Below.heap_setCell w p u i (by
    rintro rfl
    rcases hp with hp | hp
    · exact hne (by rw [hp])
    · omega)).trans (h.block i hi hne)⟩

/-- the records that a mark writes -/
def mark2 (k0 : Int) (n : Nat) : List (Int × Int) := (List.range n).map fun (i : Nat) => (k0 + 2 * i, k0 + 2 * i + 1)
def mark3 (k0 : Int) (n : Nat) : List (Int × Int × Int) := (List.range n).map fun (i : Nat) => (k0 + 3 * i, k0 + 3 * i + 1, k0 + 3 * i + 2)
def mark1 (k0 : Int) (n : Nat) : List Int := (List.range n).map fun (i : Nat) => k0 + i
theorem mark2_len (k0 : Int) (n : Nat) : (mark2 k0 n).length = n := by simp [mark2]
theorem mark3_len (k0 : Int) (n : Nat) : (mark3 k0 n).length = n := by simp [mark3]
theorem mark1_len (k0 : Int) (n : Nat) : (mark1 k0 n).length = n := by simp [mark1]
theorem mark2_at (k0 : Int) (n k : Nat) (h : k < n) : a2 (mark2 k0 n) k = k0 + 2 * k ∧ b2 (mark2 k0 n) k = k0 + 2 * k + 1 := by simp [a2, b2, mark2, h]
theorem mark3_at (k0 : Int) (n k : Nat) (h : k < n) : a3 (mark3 k0 n) k = k0 + 3 * k ∧ b3 (mark3 k0 n) k = k0 + 3 * k + 1 ∧ c3 (mark3 k0 n) k = k0 + 3 * k + 2 := by simp [a3, b3, c3, mark3, h]
theorem mark1_at (k0 : Int) (n k : Nat) (h : k < n) : a1 (mark1 k0 n) k = k0 + k := by simp [a1, mark1, h]
theorem mark_set {α : Type} (f : Nat → α) (ps : List α) (k : Nat) (h : k < ps.length) : ((List.range k).map f ++ ps.drop k).set k (f k) = (List.range (k + 1)).map f ++ ps.drop (k + 1) := by
  rw [List.set_append_right _ _ (by simp)]
  rw [List.drop_eq_getElem_cons h]
  simp only [List.length_map, List.length_range, Nat.sub_self, List.set_cons_zero, List.range_succ, List.map_append, List.map_cons, List.map_nil, List.append_assoc, List.cons_append, List.nil_append]
theorem mark_len {α : Type} (f : Nat → α) (ps : List α) (k : Nat) (h : k ≤ ps.length) : ((List.range k).map f ++ ps.drop k).length = ps.length := by simp; omega
theorem row2_a {w : World} {base t g cap n : Nat} {xs : List (Int × Int)} (h : w.ownsRow base t 2 (.slice (some ⟨g, 0, none⟩) n cap) n (fl2 xs)) {k : Nat} (hk : k < xs.length) :
    w.cell? ⟨g, k * 2, none⟩ = some (.int .i64 (a2 xs k)) ∧ w.cell? ⟨g, k * 2 + 1, none⟩ = some (.int .i64 (b2 xs k)) := by
  have hl := h.1
  rw [fl2_len] at hl
  exact ⟨(h.cellAt (k * 2) (by omega)).trans (fl2_a xs k hk), (h.cellAt (k * 2 + 1) (by omega)).trans (fl2_b xs k hk)⟩
/-- a record stored into an owned row -/
theorem row2_store {w : World} {base t g cap n : Nat} {xs : List (Int × Int)} (h : w.ownsRow base t 2 (.slice (some ⟨g, 0, none⟩) n cap) n (fl2 xs)) {k : Nat} (hk : k < xs.length) (a b : Int) :
    ((w.setCell ⟨g, k * 2, none⟩ (.int .i64 a)).setCell ⟨g, k * 2 + 1, none⟩ (.int .i64 b)).ownsRow base t 2 (.slice (some ⟨g, 0, none⟩) n cap) n (fl2 (xs.set k (a, b))) := by
  have h1 := (h.stored (k * 2) (.int .i64 a)).1
  have h2 := (h1.stored (k * 2 + 1) (.int .i64 b)).1
  have e1 : (fl2 xs).set (k * 2) (.int .i64 a) = fl2 (xs.set k (a, b2 xs k)) :=
    flat_set enc2 2 enc2_len xs k 0 _ _ _ (getD_some xs k (0, 0) hk) (by omega) rfl
  rw [e1] at h2
  have e2 : (fl2 (xs.set k (a, b2 xs k))).set (k * 2 + 1) (.int .i64 b) = fl2 ((xs.set k (a, b2 xs k)).set k (a, b)) :=
    flat_set enc2 2 enc2_len _ k 1 (a, b2 xs k) _ _ (by rw [List.getElem?_set_self hk]) (by omega) rfl
  rw [e2, List.set_set] at h2
  exact h2

theorem row1_a {w : World} {base t g cap n : Nat} {xs : List Int} (h : w.ownsRow base t 1 (.slice (some ⟨g, 0, none⟩) n cap) n (fl1 xs)) {k : Nat} (hk : k < xs.length) :
    w.cell? ⟨g, k, none⟩ = some (.int .i64 (a1 xs k)) := by
  have hl := h.1
  rw [fl1_len] at hl
  exact (h.cellAt k (by omega)).trans (fl1_a xs k hk)
theorem fl1_set (xs : List Int) (k : Nat) (v : Int) (hk : k < xs.length) : (fl1 xs).set k (.int .i64 v) = fl1 (xs.set k v) := by
  have := flat_set enc1 1 enc1_len xs k 0 _ v (.int .i64 v) (getD_some xs k 0 hk) (by omega) rfl
  rw [Nat.mul_one, Nat.add_zero] at this
  exact this
theorem row1_store {w : World} {base t g cap n : Nat} {xs : List Int} (h : w.ownsRow base t 1 (.slice (some ⟨g, 0, none⟩) n cap) n (fl1 xs)) {k : Nat} (hk : k < xs.length) (v : Int) :
    (w.setCell ⟨g, k, none⟩ (.int .i64 v)).ownsRow base t 1 (.slice (some ⟨g, 0, none⟩) n cap) n (fl1 (xs.set k v)) := by
  have h1 := (h.stored k (.int .i64 v)).1
  rw [fl1_set xs k v hk] at h1
  exact h1
theorem row_len {α : Type} {en : α → List Value} {s : Nat} (hs : ∀ a, (en a).length = s) (hpos : 0 < s) {w : World} {base t n : Nat} {v : Value} {xs : List α} (h : w.ownsRow base t s v n (xs.flatMap en)) : xs.length = n := by
  have := h.1
  rw [flat_length en s hs] at this
  exact Nat.eq_of_mul_eq_mul_right hpos this
theorem made1 (n : Nat) : (madeCells #[.int .i64 0] (n * 1)).toList = fl1 (List.replicate n 0) := by
  rw [Nat.mul_one, toList_madeCells_one, fl1]
  induction n with
  | zero => rfl
  | succ n ih => rw [List.replicate_succ, List.replicate_succ, List.flatMap_cons, ← ih]; rfl

theorem add_plain (b off i : Nat) : (⟨b, off, none⟩ : Addr).add i = ⟨b, off + i, none⟩ := by unfold Addr.add; split <;> simp_all
theorem Rd.news {w : World} {a : Addr} {cs : List Value} (h : Rd w (some a) cs) : ∀ j u, cs[j]? = some u → w.cell? (a.add j) = some u := by
  intro j u hu
  have hne : cs ≠ [] := by intro h0; subst h0; simp at hu
  obtain ⟨b, off, ha, _, hc⟩ := h hne
  simp only [Option.some.injEq] at ha
  subst ha
  rw [add_plain]
  exact hc j u hu
/-- the list turned round at both ends up to i -/
def revTo {α : Type} (d : α) (ps : List α) (i : Nat) : List α := (List.range ps.length).map fun m => if m < i ∨ ps.length - 1 - m < i then ps.getD (ps.length - 1 - m) d else ps.getD m d
theorem revTo_len {α : Type} (d : α) (ps : List α) (i : Nat) : (revTo d ps i).length = ps.length := by simp [revTo]
theorem revTo_zero {α : Type} (d : α) (ps : List α) : revTo d ps 0 = ps := by
  apply List.ext_getElem
  · simp [revTo]
  · intro k h1 h2
    simp [revTo, h2]
theorem revTo_end {α : Type} (d : α) (ps : List α) (i : Nat) (h : ps.length ≤ 2 * i + 1) : revTo d ps i = ps.reverse := by
  apply List.ext_getElem
  · simp [revTo]
  · intro k h1 h2
    simp only [List.length_reverse] at h2
    simp only [revTo, List.getElem_map, List.getElem_range, List.getElem_reverse]
    by_cases hm : k < i ∨ ps.length - 1 - k < i
    · rw [if_pos hm, List.getD_eq_getElem?_getD, List.getElem?_eq_getElem (by omega)]
      rfl
    · rw [if_neg hm]
      have : ps.length - 1 - k = k := by omega
      simp [h2, this]
theorem revTo_at {α : Type} (d : α) (ps : List α) (i k : Nat) (h1 : i ≤ k) (h2 : k + i < ps.length) : (revTo d ps i).getD k d = ps.getD k d := by
  have hk : k < ps.length := by omega
  rw [List.getD_eq_getElem?_getD, revTo, List.getElem?_map, List.getElem?_range hk]
  simp only [Option.map_some, Option.getD_some]
  rw [if_neg (by omega)]
theorem revTo_set {α : Type} (d : α) (ps : List α) (i : Nat) (h : 2 * i + 1 < ps.length) :
    ((revTo d ps i).set i (ps.getD (ps.length - 1 - i) d)).set (ps.length - 1 - i) (ps.getD i d) = revTo d ps (i + 1) := by
  apply List.ext_getElem?
  intro m
  by_cases hm : m < ps.length
  · by_cases e1 : ps.length - 1 - i = m
    · subst e1
      rw [List.getElem?_set_self (by simp [revTo]; omega)]
      simp only [revTo, List.getElem?_map, List.getElem?_range hm, Option.map_some]
      rw [if_pos (by omega), show ps.length - 1 - (ps.length - 1 - i) = i by omega]
    · rw [List.getElem?_set_ne e1]
      by_cases e2 : i = m
      · subst e2
        rw [List.getElem?_set_self (by simp [revTo]; omega)]
        simp only [revTo, List.getElem?_map, List.getElem?_range hm, Option.map_some]
        rw [if_pos (by omega)]
      · rw [List.getElem?_set_ne e2]
        simp only [revTo, List.getElem?_map, List.getElem?_range hm, Option.map_some]
        by_cases h3 : m < i ∨ ps.length - 1 - m < i
        · rw [if_pos h3, if_pos (by omega)]
        · rw [if_neg h3, if_neg (by omega)]
  · rw [List.getElem?_eq_none (by simp [revTo]; omega), List.getElem?_eq_none (by simp [revTo]; omega)]
theorem rev_snoc {α : Type} (d : α) (ps : List α) (k : Nat) (h : k < ps.length) : ps.reverse.take (k + 1) = ps.reverse.take k ++ [ps.getD (ps.length - 1 - k) d] := by
  rw [List.take_succ_eq_append_getElem (by simpa using h)]
  congr 2
  rw [List.getElem_reverse, List.getD_eq_getElem?_getD, List.getElem?_eq_getElem (by omega)]
  rfl
theorem take_snoc' {α : Type} (d : α) (ps : List α) (k : Nat) (h : k < ps.length) : ps.take (k + 1) = ps.take k ++ [ps.getD k d] := by
  rw [List.take_succ_eq_append_getElem h]
  simp [h]
/-- a block that is made with nothing in it is a row of the call's own -/
theorem own_empty (w : World) (t size : Nat) : (w.alloc (.cells #[] t)).ownsRow w.heap.size t size (.slice (some ⟨w.heap.size, 0, none⟩) 0 0) 0 [] :=
  World.ownsRow_lit w #[] 0 (Nat.le_refl _) (by unfold maxLen; omega) (by simp)
theorem own_form {w : World} {base t size n : Nat} {v : Value} {xs : List Value} (h : w.ownsRow base t size v n xs) : ∃ A cap, v = .slice A n cap := by
  rcases h.2 with ⟨rfl, rfl⟩ | ⟨g, c, cur, hv, _⟩
  · exact ⟨_, _, rfl⟩
  · exact ⟨_, _, hv⟩
theorem own_apart_l {v v' : Value} {B : Nat} (h : ∀ k, v.ownBlock = some k → k < B) (h' : ∀ k, v'.ownBlock = some k → B ≤ k) : v.ownBlock = none ∨ v.ownBlock ≠ v'.ownBlock := by
  cases hv : v.ownBlock with
  | none => exact .inl rfl
  | some k => exact .inr (fun e => by have := h k hv; have := h' k e.symm; omega)
theorem own_apart_r {v v' : Value} {B : Nat} (h' : ∀ k, v'.ownBlock = some k → k < B) (h : ∀ k, v.ownBlock = some k → B ≤ k) : v.ownBlock = none ∨ v.ownBlock ≠ v'.ownBlock := by
  cases hv : v.ownBlock with
  | none => exact .inl rfl
  | some k => exact .inr (fun e => by have := h k hv; have := h' k e.symm; omega)
end Go.Proofs.Ytdnjeahbnidefaa

/- Plain laws: lists in which nothing stands twice. No program is named here. -/
namespace Go.Proofs.Ytdnjeahbnidefaa

theorem pigeon : ∀ (m : Nat) (xs : List Nat), xs.Nodup → (∀ x ∈ xs, x < m) → xs.length ≤ m := by
  intro m
  induction m with
  | zero =>
    intro xs _ h
    cases xs with
    | nil => exact Nat.le_refl _
    | cons x xs => exact absurd (h x (by simp)) (by omega)
  | succ m ih =>
    intro xs hn h
    have h1 := ih (xs.filter (fun x => !decide (x = m))) (hn.filter _) (fun x hx => by
      have := List.mem_filter.1 hx
      have h2 := h x this.1
      have h3 := this.2
      simp at h3
      omega)
    have h2 : xs.length ≤ (xs.filter (fun x => !decide (x = m))).length + 1 := by
      clear h1 h
      induction xs with
      | nil => simp
      | cons x xs ihx =>
        obtain ⟨n1, n2⟩ := List.nodup_cons.1 hn
        by_cases e : x = m
        · subst e
          have : xs.filter (fun y => !decide (y = x)) = xs := List.filter_eq_self.2 fun y hy => by
            have : y ≠ x := fun e => n1 (e ▸ hy)
            simp [this]
          rw [List.filter_cons, if_neg (by simp), this]
          simp
        · rw [List.filter_cons, if_pos (by simp [e])]
          have := ihx n2
          simp only [List.length_cons]
          omega
    omega
theorem nodup_le : ∀ (xs ys : List Nat), xs.Nodup → (∀ x ∈ xs, x ∈ ys) → xs.length ≤ ys.length := by
  intro xs
  induction xs with
  | nil => intro ys _ _; simp
  | cons x xs ih =>
    intro ys hn h
    obtain ⟨n1, n2⟩ := List.nodup_cons.1 hn
    have h1 : x ∈ ys := h x (by simp)
    have h2 := List.length_erase_of_mem h1
    have h3 := ih (ys.erase x) n2 (fun y hy => (List.mem_erase_of_ne (show y ≠ x from fun e => n1 (e ▸ hy))).2 (h y (by simp [hy])))
    have h4 := List.length_pos_of_mem h1
    simp only [List.length_cons]
    omega
end Go.Proofs.Ytdnjeahbnidefaa

/- Plain laws: ways over edges, and shortest ones. No program is named here. -/
namespace Go.Proofs.Ytdnjeahbnidefaa

/-- a way of k edges between two towns below n, and its length; an edge is what has at least one mile -/
inductive Wk (e : Nat → Nat → Int) (n : Nat) : Nat → Nat → Nat → Int → Prop
  | nil {a : Nat} : a < n → Wk e n 0 a a 0
  | cons {a b c k : Nat} {L : Int} : a < n → 1 ≤ e a b → Wk e n k b c L → Wk e n (k + 1) a c (e a b + L)

section
variable {e : Nat → Nat → Int} {n : Nat}
theorem Wk.lt_l {k a c : Nat} {L : Int} (h : Wk e n k a c L) : a < n := by
  cases h with
  | nil h => exact h
  | cons h _ _ => exact h
theorem Wk.lt_r {k a c : Nat} {L : Int} (h : Wk e n k a c L) : c < n := by
  induction h with
  | nil h => exact h
  | cons _ _ _ ih => exact ih
theorem Wk.ge {k a c : Nat} {L : Int} (h : Wk e n k a c L) : (k : Int) ≤ L := by
  induction h with
  | nil h => simp
  | cons _ h1 _ ih => omega
theorem Wk.le {k a c : Nat} {L : Int} (h : Wk e n k a c L) (he : ∀ a b, e a b ≤ 99) : L ≤ 99 * k := by
  induction h with
  | nil h => simp
  | @cons a b c k L _ _ _ ih => have := he a b; omega
theorem Wk.append {k j a b c : Nat} {L M : Int} (h : Wk e n k a b L) (g : Wk e n j b c M) : Wk e n (k + j) a c (L + M) := by
  induction h with
  | nil h => rw [Nat.zero_add, Int.zero_add]; exact g
  | @cons a x b k L h1 h2 _ ih => rw [Nat.add_right_comm, Int.add_assoc]; exact .cons h1 h2 (ih g)
theorem Wk.one {a b : Nat} (ha : a < n) (hb : b < n) (h : 1 ≤ e a b) : Wk e n 1 a b (e a b) := by
  have := Wk.cons ha h (Wk.nil (e := e) hb)
  rwa [Int.add_zero] at this
theorem Wk.rev (hs : ∀ a b, e a b = e b a) {k a c : Nat} {L : Int} (h : Wk e n k a c L) : Wk e n k c a L := by
  induction h with
  | nil h => exact .nil h
  | @cons a b c k L h1 h2 h3 ih =>
    have := ih.append (Wk.one (e := e) h3.lt_l h1 (by rw [hs]; exact h2))
    rw [hs b a, Int.add_comm] at this
    exact this
theorem Wk.zero {a c k : Nat} {L : Int} (h : Wk e n k a c L) (h0 : L ≤ 0) : k = 0 ∧ a = c ∧ L = 0 := by
  have := h.ge
  cases h with
  | nil h => exact ⟨rfl, rfl, rfl⟩
  | cons _ _ _ => omega

/-- a way within a set of towns -/
inductive WkIn (e : Nat → Nat → Int) (n : Nat) (S : Nat → Bool) : Nat → Nat → Int → Prop
  | nil {a : Nat} : a < n → S a = true → WkIn e n S a a 0
  | cons {a b c : Nat} {L : Int} : a < n → S a = true → 1 ≤ e a b → WkIn e n S b c L → WkIn e n S a c (e a b + L)
theorem WkIn.of {k a c : Nat} {L : Int} (h : Wk e n k a c L) : WkIn e n (fun _ => true) a c L := by
  induction h with
  | nil h => exact .nil h rfl
  | cons h1 h2 _ ih => exact .cons h1 rfl h2 ih
theorem WkIn.ge {S : Nat → Bool} {a c : Nat} {L : Int} (h : WkIn e n S a c L) : 0 ≤ L := by
  induction h with
  | nil => exact Int.le_refl _
  | cons _ _ h _ ih => omega
theorem WkIn.at {S : Nat → Bool} {a c : Nat} {L : Int} (h : WkIn e n S a c L) : a < n ∧ S a = true := by
  cases h with
  | nil h h1 => exact ⟨h, h1⟩
  | cons h h1 _ _ => exact ⟨h, h1⟩
/-- the set without a town -/
def less (S : Nat → Bool) (v : Nat) : Nat → Bool := fun i => S i && !decide (i = v)
def cnt (S : Nat → Bool) : Nat → Nat
  | 0 => 0
  | n + 1 => cnt S n + (if S n = true then 1 else 0)
theorem cnt_less_ge (S : Nat → Bool) (v : Nat) : ∀ m, m ≤ v → cnt (less S v) m = cnt S m := by
  intro m
  induction m with
  | zero => intro _; rfl
  | succ m ih =>
    intro h
    rw [cnt, cnt, ih (by omega)]
    have : less S v m = S m := by unfold less; rw [decide_eq_false (by omega)]; simp
    rw [this]
theorem cnt_less (S : Nat → Bool) (v : Nat) (hS : S v = true) : ∀ m, v < m → cnt (less S v) m + 1 = cnt S m := by
  intro m
  induction m with
  | zero => intro h; omega
  | succ m ih =>
    intro h
    by_cases hm : v = m
    · subst hm
      have h1 : less S v v = false := by unfold less; simp
      rw [cnt, cnt, cnt_less_ge S v v (Nat.le_refl _), h1, hS]
      simp
    · have h1 : less S v m = S m := by unfold less; rw [decide_eq_false (by omega)]; simp
      rw [cnt, cnt, h1, ← ih (by omega)]
      omega
theorem cnt_all : ∀ m, cnt (fun _ => true) m = m := by
  intro m
  induction m with
  | zero => rfl
  | succ m ih => rw [cnt, ih]; simp
theorem cnt_le (S : Nat → Bool) : ∀ m, cnt S m ≤ m := by
  intro m
  induction m with
  | zero => exact Nat.le_refl _
  | succ m ih => rw [cnt]; split <;> omega
/-- behind the last time that a way is at a town it is there no more -/
theorem WkIn.last {S : Nat → Bool} {x a : Nat} {L : Int} (h : WkIn e n S x a L) (v : Nat) :
    WkIn e n (less S v) x a L ∨ v = a ∨ ∃ u M, 1 ≤ e v u ∧ WkIn e n (less S v) u a M ∧ e v u + M ≤ L := by
  induction h with
  | @nil a h h1 =>
    by_cases hv : v = a
    · exact .inr (.inl hv)
    · exact .inl (.nil h (by unfold less; rw [h1, decide_eq_false (fun e => hv e.symm)]; rfl))
  | @cons x y a L h h1 h2 h3 ih =>
    rcases ih with ih | ih | ⟨u, M, i1, i2, i3⟩
    · by_cases hv : v = x
      · subst hv
        exact .inr (.inr ⟨y, L, h2, ih, Int.le_refl _⟩)
      · exact .inl (.cons h (by unfold less; rw [h1, decide_eq_false (fun e => hv e.symm)]; rfl) h2 ih)
    · exact .inr (.inl ih)
    · exact .inr (.inr ⟨u, M, i1, i2, by omega⟩)
/-- a way can be had with fewer edges than there are towns in the set, and is no longer -/
theorem WkIn.short : ∀ (m : Nat) {S : Nat → Bool} {x a : Nat} {L : Int}, cnt S n ≤ m → WkIn e n S x a L → ∃ k M, k < m ∧ M ≤ L ∧ Wk e n k x a M := by
  intro m
  induction m with
  | zero =>
    intro S x a L hc h
    have := cnt_less S x h.at.2 n h.at.1
    omega
  | succ m ih =>
    intro S x a L hc h
    have hx := h.at
    have hl := cnt_less S x hx.2 n hx.1
    rcases h.last x with h1 | h1 | ⟨u, M, i1, i2, i3⟩
    · have := h1.at.2
      simp [less] at this
    · subst h1
      exact ⟨0, 0, by omega, h.ge, .nil hx.1⟩
    · obtain ⟨k, M', j1, j2, j3⟩ := ih (S := less S x) (by omega) i2
      exact ⟨k + 1, e x u + M', by omega, by omega, .cons hx.1 i1 j3⟩
theorem Wk.short {k x a : Nat} {L : Int} (h : Wk e n k x a L) : ∃ j M, j < n ∧ M ≤ L ∧ Wk e n j x a M :=
  WkIn.short n (by rw [cnt_all]; exact Nat.le_refl _) (WkIn.of h)

/-- the distance of two towns -/
def IsD (e : Nat → Nat → Int) (n : Nat) (a b : Nat) (d : Int) : Prop := (∃ k, Wk e n k a b d) ∧ ∀ k L, Wk e n k a b L → d ≤ L
def NoWay (e : Nat → Nat → Int) (n : Nat) (a b : Nat) : Prop := ∀ k L, ¬ Wk e n k a b L
theorem IsD.unique {a b : Nat} {d f : Int} (h : IsD e n a b d) (g : IsD e n a b f) : d = f := by
  obtain ⟨⟨k, h1⟩, h2⟩ := h
  obtain ⟨⟨j, g1⟩, g2⟩ := g
  have := h2 _ _ g1
  have := g2 _ _ h1
  omega
theorem IsD.ge {a b : Nat} {d : Int} (h : IsD e n a b d) : 0 ≤ d := by
  obtain ⟨⟨k, h1⟩, _⟩ := h
  have := h1.ge
  omega
theorem IsD.rev (hs : ∀ a b, e a b = e b a) {a b : Nat} {d : Int} (h : IsD e n a b d) : IsD e n b a d := by
  obtain ⟨⟨k, h1⟩, h2⟩ := h
  exact ⟨⟨k, h1.rev hs⟩, fun j L g => h2 j L (g.rev hs)⟩
theorem NoWay.rev (hs : ∀ a b, e a b = e b a) {a b : Nat} (h : NoWay e n a b) : NoWay e n b a := fun k L g => h k L (g.rev hs)
theorem IsD.tri {a b c : Nat} {d f g : Int} (h : IsD e n a b d) (h1 : IsD e n b c f) (h2 : IsD e n a c g) : g ≤ d + f := by
  obtain ⟨⟨k, w⟩, _⟩ := h
  obtain ⟨⟨j, v⟩, _⟩ := h1
  exact h2.2 _ _ (w.append v)
theorem IsD.self {a : Nat} (h : a < n) : IsD e n a a 0 := ⟨⟨0, .nil h⟩, fun k L g => by have := g.ge; omega⟩
theorem IsD.le {a b : Nat} {d : Int} (h : IsD e n a b d) (he : ∀ a b, e a b ≤ 99) : d ≤ 99 * n := by
  obtain ⟨⟨k, w⟩, m⟩ := h
  obtain ⟨j, M, j1, j2, j3⟩ := w.short
  have := j3.le he
  have := m _ _ j3
  omega
/-- a step ahead of the rest -/
theorem Wk.cases {k a c : Nat} {L : Int} (h : Wk e n k a c L) : (k = 0 ∧ a = c ∧ L = 0) ∨ ∃ b j M, k = j + 1 ∧ 1 ≤ e a b ∧ Wk e n j b c M ∧ L = e a b + M := by
  cases h with
  | nil h => exact .inl ⟨rfl, rfl, rfl⟩
  | @cons _ b _ j M _ h2 h3 => exact .inr ⟨b, j, M, rfl, h2, h3, rfl⟩
end
end Go.Proofs.Ytdnjeahbnidefaa

/- Plain laws: roads, the reference's distances. No program is named here. -/
namespace Go.Proofs.Ytdnjeahbnidefaa

/-- a road between two towns, in whatever order they are named -/
def hit (rs : List (Int × Int × Int)) (a b : Int) (k : Nat) : Bool := decide (a3 rs k = min a b) && decide (b3 rs k = max a b)
/-- the first road between two towns among the first k, or -1 -/
def findTo (rs : List (Int × Int × Int)) (a b : Int) : Nat → Int
  | 0 => -1
  | k + 1 => if 0 ≤ findTo rs a b k then findTo rs a b k else if hit rs a b k = true then (k : Int) else -1
def find1 (rs : List (Int × Int × Int)) (a b : Int) : Int := findTo rs a b rs.length
/-- the miles of the road between two towns, or -1 -/
def edgeTo (rs : List (Int × Int × Int)) (k : Nat) (a b : Int) : Int := if 0 ≤ findTo rs a b k then c3 rs (findTo rs a b k).toNat else -1
def edge (rs : List (Int × Int × Int)) (a b : Int) : Int := edgeTo rs rs.length a b
theorem hit_comm (rs : List (Int × Int × Int)) (a b : Int) (k : Nat) : hit rs a b k = hit rs b a k := by
  unfold hit; rw [Int.min_comm, Int.max_comm]
theorem findTo_comm (rs : List (Int × Int × Int)) (a b : Int) : ∀ k, findTo rs a b k = findTo rs b a k := by
  intro k
  induction k with
  | zero => rfl
  | succ k ih => rw [findTo, findTo, ih, hit_comm]
theorem edgeTo_comm (rs : List (Int × Int × Int)) (k : Nat) (a b : Int) : edgeTo rs k a b = edgeTo rs k b a := by
  unfold edgeTo; rw [findTo_comm]
theorem edge_comm (rs : List (Int × Int × Int)) (a b : Int) : edge rs a b = edge rs b a := edgeTo_comm _ _ _ _
theorem findTo_cases (rs : List (Int × Int × Int)) (a b : Int) : ∀ k, (findTo rs a b k = -1 ∧ ∀ j, j < k → hit rs a b j = false) ∨ ∃ j, j < k ∧ findTo rs a b k = (j : Int) ∧ hit rs a b j = true ∧ ∀ i, i < j → hit rs a b i = false := by
  intro k
  induction k with
  | zero => exact .inl ⟨rfl, fun j h => by omega⟩
  | succ k ih =>
    rcases ih with ⟨h1, h2⟩ | ⟨j, h1, h2, h3, h4⟩
    · rw [findTo, h1, if_neg (by omega)]
      cases hk : hit rs a b k
      · refine .inl ⟨by rw [if_neg (by simp)], fun j hj => ?_⟩
        by_cases e : j = k
        · subst e; exact hk
        · exact h2 j (by omega)
      · refine .inr ⟨k, by omega, by rw [if_pos rfl], hk, h2⟩
    · rw [findTo, h2, if_pos (by omega)]
      exact .inr ⟨j, by omega, rfl, h3, h4⟩
theorem findTo_at {rs : List (Int × Int × Int)} {a b : Int} {j k : Nat} (hj : j < k) (h : hit rs a b j = true) (hn : ∀ i, i < j → hit rs a b i = false) : findTo rs a b k = (j : Int) := by
  rcases findTo_cases rs a b k with ⟨_, h2⟩ | ⟨i, h1, h2, h3, h4⟩
  · rw [h2 j hj] at h; cases h
  · by_cases e : i = j
    · rw [h2, e]
    · rcases Nat.lt_or_ge i j with h5 | h5
      · rw [hn i h5] at h3; cases h3
      · rw [h4 j (by omega)] at h; cases h
theorem findTo_none {rs : List (Int × Int × Int)} {a b : Int} {k : Nat} (hn : ∀ i, i < k → hit rs a b i = false) : findTo rs a b k = -1 := by
  rcases findTo_cases rs a b k with ⟨h1, _⟩ | ⟨i, h1, h2, h3, h4⟩
  · exact h1
  · rw [hn i h1] at h3; cases h3

/-- one road is as it should be -/
def roadIn (n : Int) (rs : List (Int × Int × Int)) (k : Nat) : Bool :=
  (decide (0 ≤ a3 rs k) && decide (a3 rs k ≤ n - 1)) && ((decide (a3 rs k + 1 ≤ b3 rs k) && decide (b3 rs k ≤ n - 1)) && (decide (1 ≤ c3 rs k) && decide (c3 rs k ≤ 99)))
/-- no road ahead of it joins the same towns -/
def freshTo (rs : List (Int × Int × Int)) (k : Nat) : Nat → Bool
  | 0 => true
  | j + 1 => freshTo rs k j && !(decide (a3 rs j = a3 rs k) && decide (b3 rs j = b3 rs k))
def roadOne (n : Int) (rs : List (Int × Int × Int)) (k : Nat) : Bool := roadIn n rs k && freshTo rs k k
def roadsTo (n : Int) (rs : List (Int × Int × Int)) : Nat → Bool
  | 0 => true
  | k + 1 => roadsTo n rs k && roadOne n rs k
def townsOk (n : Int) (rs : List (Int × Int × Int)) : Bool := (decide (1 ≤ n) && decide (n ≤ 8)) && decide (rs.length ≤ 16)
def roadsValid (n : Int) (rs : List (Int × Int × Int)) : Bool := townsOk n rs && roadsTo n rs rs.length
theorem roadsTo_no {n : Int} {rs : List (Int × Int × Int)} {k : Nat} (h : roadOne n rs k = false) : ∀ m, k < m → roadsTo n rs m = false := by
  intro m
  induction m with
  | zero => intro h; omega
  | succ m ih =>
    intro hk
    rw [roadsTo]
    by_cases e : k = m
    · subst e; rw [h, Bool.and_false]
    · rw [ih (by omega), Bool.false_and]
theorem freshTo_no {rs : List (Int × Int × Int)} {k j : Nat} (h : (decide (a3 rs j = a3 rs k) && decide (b3 rs j = b3 rs k)) = true) : ∀ m, j < m → freshTo rs k m = false := by
  intro m
  induction m with
  | zero => intro h; omega
  | succ m ih =>
    intro hk
    rw [freshTo]
    by_cases e : j = m
    · subst e; rw [h]; simp
    · rw [ih (by omega), Bool.false_and]
theorem freshTo_iff {rs : List (Int × Int × Int)} {k : Nat} : ∀ m, freshTo rs k m = true ↔ ∀ j, j < m → ¬ (a3 rs j = a3 rs k ∧ b3 rs j = b3 rs k) := by
  intro m
  induction m with
  | zero => simp [freshTo]
  | succ m ih =>
    rw [freshTo, Bool.and_eq_true, ih]
    constructor
    · rintro ⟨h1, h2⟩ j hj
      by_cases e : j = m
      · subst e
        intro ⟨g1, g2⟩
        rw [decide_eq_true g1, decide_eq_true g2] at h2
        cases h2
      · exact h1 j (by omega)
    · intro h
      refine ⟨fun j hj => h j (by omega), ?_⟩
      have := h m (by omega)
      by_cases g1 : a3 rs m = a3 rs k
      · rw [decide_eq_false (fun g2 => this ⟨g1, g2⟩)]; simp
      · rw [decide_eq_false g1]; rfl
theorem roadsTo_iff {n : Int} {rs : List (Int × Int × Int)} : ∀ m, roadsTo n rs m = true ↔ ∀ j, j < m → roadOne n rs j = true := by
  intro m
  induction m with
  | zero => simp [roadsTo]
  | succ m ih =>
    rw [roadsTo, Bool.and_eq_true, ih]
    constructor
    · rintro ⟨h1, h2⟩ j hj
      by_cases e : j = m
      · subst e; exact h2
      · exact h1 j (by omega)
    · intro h
      exact ⟨fun j hj => h j (by omega), h m (by omega)⟩
/-- what valid roads are -/
structure RV (n : Nat) (rs : List (Int × Int × Int)) : Prop where
  n1 : 1 ≤ n
  n8 : n ≤ 8
  l16 : rs.length ≤ 16
  road : ∀ k, k < rs.length → 0 ≤ a3 rs k ∧ a3 rs k < b3 rs k ∧ b3 rs k < n ∧ 1 ≤ c3 rs k ∧ c3 rs k ≤ 99
  apart : ∀ j k, j < k → k < rs.length → ¬ (a3 rs j = a3 rs k ∧ b3 rs j = b3 rs k)
theorem roadIn_iff {n : Int} {rs : List (Int × Int × Int)} {k : Nat} : roadIn n rs k = true ↔ 0 ≤ a3 rs k ∧ a3 rs k < b3 rs k ∧ b3 rs k < n ∧ 1 ≤ c3 rs k ∧ c3 rs k ≤ 99 := by
  simp only [roadIn, Bool.and_eq_true, decide_eq_true_eq]
  omega
theorem roadsValid_t {n : Int} {rs : List (Int × Int × Int)} (h : roadsValid n rs = true) : ∃ m : Nat, n = m ∧ RV m rs := by
  simp only [roadsValid, townsOk, Bool.and_eq_true, decide_eq_true_eq] at h
  obtain ⟨⟨⟨h1, h2⟩, h3⟩, h4⟩ := h
  obtain ⟨m, rfl⟩ := Int.eq_ofNat_of_zero_le (show 0 ≤ n by omega)
  rw [roadsTo_iff] at h4
  refine ⟨m, rfl, by omega, by omega, h3, fun k hk => ?_, fun j k hj hk => ?_⟩
  · have := h4 k hk
    rw [roadOne, Bool.and_eq_true] at this
    exact roadIn_iff.1 this.1
  · have := h4 k hk
    rw [roadOne, Bool.and_eq_true, freshTo_iff] at this
    exact this.2 j hj
theorem roadsValid_of {m : Nat} {rs : List (Int × Int × Int)} (h : RV m rs) : roadsValid m rs = true := by
  have h1 := h.n1
  have h2 := h.n8
  simp only [roadsValid, townsOk, Bool.and_eq_true, decide_eq_true_eq]
  refine ⟨⟨⟨by omega, by omega⟩, h.l16⟩, ?_⟩
  rw [roadsTo_iff]
  intro j hj
  rw [roadOne, Bool.and_eq_true, freshTo_iff]
  exact ⟨roadIn_iff.2 (h.road j hj), fun i hi => h.apart i j hi hj⟩

section
variable {n : Nat} {rs : List (Int × Int × Int)}
theorem hit_iff {a b : Int} {k : Nat} : hit rs a b k = true ↔ a3 rs k = min a b ∧ b3 rs k = max a b := by simp [hit]
theorem RV.hit_one (h : RV n rs) {a b : Int} {j k : Nat} (hj : j < rs.length) (hk : k < rs.length) (h1 : hit rs a b j = true) (h2 : hit rs a b k = true) : j = k := by
  rw [hit_iff] at h1 h2
  rcases Nat.lt_or_ge j k with h3 | h3
  · exact absurd ⟨h1.1.trans h2.1.symm, h1.2.trans h2.2.symm⟩ (h.apart j k h3 hk)
  · rcases Nat.lt_or_ge k j with h4 | h4
    · exact absurd ⟨h2.1.trans h1.1.symm, h2.2.trans h1.2.symm⟩ (h.apart k j h4 hj)
    · omega
theorem RV.find_hit (h : RV n rs) {a b : Int} {k m : Nat} (hk : k < m) (hm : m ≤ rs.length) (h1 : hit rs a b k = true) : findTo rs a b m = (k : Int) :=
  findTo_at hk h1 (fun i hi => by
    cases hh : hit rs a b i
    · rfl
    · have := h.hit_one (by omega) (by omega) hh h1
      omega)
theorem RV.hit_self (h : RV n rs) {k : Nat} (hk : k < rs.length) : hit rs (a3 rs k) (b3 rs k) k = true := by
  obtain ⟨h1, h2, _⟩ := h.road k hk
  rw [hit_iff]; omega
theorem RV.edge_road (h : RV n rs) {k : Nat} (hk : k < rs.length) : edge rs (a3 rs k) (b3 rs k) = c3 rs k := by
  unfold edge edgeTo
  rw [h.find_hit hk (Nat.le_refl _) (h.hit_self hk), if_pos (by omega)]
  rfl
theorem edge_cases (rs : List (Int × Int × Int)) (a b : Int) : (edge rs a b = -1 ∧ find1 rs a b = -1 ∧ ∀ j, j < rs.length → hit rs a b j = false) ∨ ∃ j, j < rs.length ∧ find1 rs a b = (j : Int) ∧ hit rs a b j = true ∧ edge rs a b = c3 rs j := by
  unfold edge edgeTo find1
  rcases findTo_cases rs a b rs.length with ⟨h1, h2⟩ | ⟨j, h1, h2, h3, h4⟩
  · rw [h1, if_neg (by omega)]
    exact .inl ⟨rfl, rfl, h2⟩
  · rw [h2, if_pos (by omega)]
    exact .inr ⟨j, h1, rfl, h3, rfl⟩
theorem RV.edge_pos (h : RV n rs) {a b : Int} (h1 : 0 ≤ edge rs a b) : 1 ≤ edge rs a b ∧ edge rs a b ≤ 99 ∧ 0 ≤ a ∧ a < n ∧ 0 ≤ b ∧ b < n ∧ a ≠ b := by
  rcases edge_cases rs a b with ⟨h2, _, _⟩ | ⟨j, h2, _, h3, h4⟩
  · omega
  · rw [hit_iff] at h3
    obtain ⟨g1, g2, g3, g4, g5⟩ := h.road j h2
    rw [h4]
    omega
theorem RV.edge_le (h : RV n rs) (a b : Int) : edge rs a b ≤ 99 ∧ -1 ≤ edge rs a b := by
  rcases edge_cases rs a b with ⟨h2, _, _⟩ | ⟨j, h2, _, h3, h4⟩
  · omega
  · obtain ⟨g1, g2, g3, g4, g5⟩ := h.road j h2
    omega
/-- the edges of roads, between towns as naturals -/
def eN (rs : List (Int × Int × Int)) (a b : Nat) : Int := edge rs a b
theorem eN_comm (rs : List (Int × Int × Int)) (a b : Nat) : eN rs a b = eN rs b a := edge_comm _ _ _
theorem RV.eN_le (h : RV n rs) (a b : Nat) : eN rs a b ≤ 99 := (h.edge_le a b).1

theorem a1_set {xs : List Int} {i : Nat} {v : Int} (j : Nat) (hi : i < xs.length) : a1 (xs.set i v) j = if i = j then v else a1 xs j := by
  unfold a1
  by_cases h : i = j
  · subst h
    rw [if_pos rfl, List.getD_eq_getElem?_getD, List.getElem?_set_self hi]; rfl
  · rw [if_neg h, List.getD_eq_getElem?_getD, List.getElem?_set_ne h, ← List.getD_eq_getElem?_getD]
/-- one road's turn -/
def relax (out : List Int) (rs : List (Int × Int × Int)) (k : Nat) : List Int :=
  (out.set (a3 rs k).toNat (min (a1 out (a3 rs k).toNat) (a1 out (b3 rs k).toNat + c3 rs k))).set (b3 rs k).toNat
    (min (a1 (out.set (a3 rs k).toNat (min (a1 out (a3 rs k).toNat) (a1 out (b3 rs k).toNat + c3 rs k))) (b3 rs k).toNat) (a1 (out.set (a3 rs k).toNat (min (a1 out (a3 rs k).toNat) (a1 out (b3 rs k).toNat + c3 rs k))) (a3 rs k).toNat + c3 rs k))
def relaxTo (rs : List (Int × Int × Int)) (out : List Int) : Nat → List Int
  | 0 => out
  | k + 1 => relax (relaxTo rs out k) rs k
def farRound (rs : List (Int × Int × Int)) (out : List Int) : Nat → List Int
  | 0 => out
  | t + 1 => relaxTo rs (farRound rs out t) rs.length
def farStart (n : Nat) (a : Nat) : List Int := (List.replicate n 100000).set a 0
def farList (n : Nat) (rs : List (Int × Int × Int)) (a : Nat) : List Int := farRound rs (farStart n a) n
/-- the distance, -1 for no way -/
def dist (n : Nat) (rs : List (Int × Int × Int)) (a b : Nat) : Int := if 100000 ≤ a1 (farList n rs a) b then -1 else a1 (farList n rs a) b

theorem relax_len (out : List Int) (rs : List (Int × Int × Int)) (k : Nat) : (relax out rs k).length = out.length := by
  simp [relax]
/-- what one road's turn does, town by town -/
theorem RV.relax_at (h : RV n rs) {out : List Int} (hl : out.length = n) {k : Nat} (hk : k < rs.length) (v : Nat) (_hv : v < n) :
    a1 (relax out rs k) v = if (v : Int) = b3 rs k then min (a1 out v) (min (a1 out (a3 rs k).toNat) (a1 out v + c3 rs k) + c3 rs k) else if (v : Int) = a3 rs k then min (a1 out v) (a1 out (b3 rs k).toNat + c3 rs k) else a1 out v := by
  obtain ⟨g1, g2, g3, g4, g5⟩ := h.road k hk
  unfold relax
  rw [a1_set _ (by rw [List.length_set]; omega)]
  by_cases e1 : (v : Int) = b3 rs k
  · have e1' : (b3 rs k).toNat = v := by omega
    rw [if_pos e1', if_pos e1, a1_set _ (by omega), a1_set _ (by omega), if_pos rfl, if_neg (by omega), e1']
  · rw [if_neg (by omega), if_neg e1, a1_set _ (by omega)]
    by_cases e2 : (v : Int) = a3 rs k
    · have e2' : (a3 rs k).toNat = v := by omega
      rw [if_pos e2', if_pos e2, e2']
    · rw [if_neg (by omega), if_neg e2]
/-- what the list of distances holds on the way -/
def FarOk (n : Nat) (rs : List (Int × Int × Int)) (a : Nat) (out : List Int) : Prop :=
  out.length = n ∧ ∀ v, v < n → (0 ≤ a1 out v ∧ a1 out v ≤ 100000) ∧ (a1 out v < 100000 → ∃ k, Wk (eN rs) n k v a (a1 out v))
theorem RV.relax_ok (h : RV n rs) {a : Nat} {out : List Int} (ho : FarOk n rs a out) {k : Nat} (hk : k < rs.length) : FarOk n rs a (relax out rs k) := by
  obtain ⟨hl, ho⟩ := ho
  obtain ⟨g1, g2, g3, g4, g5⟩ := h.road k hk
  obtain ⟨A, hA⟩ := Int.eq_ofNat_of_zero_le g1
  obtain ⟨B, hB⟩ := Int.eq_ofNat_of_zero_le (show 0 ≤ b3 rs k by omega)
  have he : eN rs A B = c3 rs k := by unfold eN; rw [← hA, ← hB]; exact h.edge_road hk
  have he' : eN rs B A = c3 rs k := by rw [eN_comm]; exact he
  have hAn : A < n := by omega
  have hBn : B < n := by omega
  obtain ⟨oA, wA⟩ := ho A hAn
  obtain ⟨oB, wB⟩ := ho B hBn
  refine ⟨by rw [relax_len]; exact hl, fun v hv => ?_⟩
  obtain ⟨ov, wv⟩ := ho v hv
  rw [h.relax_at hl hk v hv]
  rw [hA, hB, Int.toNat_natCast, Int.toNat_natCast]
  by_cases e1 : (v : Int) = B
  · obtain rfl : v = B := by omega
    rw [if_pos rfl]
    refine ⟨by omega, fun hlt => ?_⟩
    by_cases c : a1 out v ≤ a1 out A + c3 rs k
    · rw [show min (a1 out v) (min (a1 out A) (a1 out v + c3 rs k) + c3 rs k) = a1 out v by omega]
      exact wv (by omega)
    · have e : min (a1 out v) (min (a1 out A) (a1 out v + c3 rs k) + c3 rs k) = eN rs v A + a1 out A := by omega
      rw [e]
      obtain ⟨j, wj⟩ := wA (by omega)
      exact ⟨j + 1, .cons hv (by omega) wj⟩
  · rw [if_neg e1]
    by_cases e2 : (v : Int) = A
    · obtain rfl : v = A := by omega
      rw [if_pos rfl]
      refine ⟨by omega, fun hlt => ?_⟩
      by_cases c : a1 out v ≤ a1 out B + c3 rs k
      · rw [show min (a1 out v) (a1 out B + c3 rs k) = a1 out v by omega]
        exact wv (by omega)
      · have e : min (a1 out v) (a1 out B + c3 rs k) = eN rs v B + a1 out B := by omega
        rw [e]
        obtain ⟨j, wj⟩ := wB (by omega)
        exact ⟨j + 1, .cons hv (by omega) wj⟩
    · rw [if_neg e2]
      exact ⟨ov, wv⟩
/-- no entry grows -/
def LeAll (n : Nat) (xs ys : List Int) : Prop := ∀ v, v < n → a1 xs v ≤ a1 ys v
theorem LeAll.trans {xs ys zs : List Int} (h : LeAll n xs ys) (g : LeAll n ys zs) : LeAll n xs zs := fun v hv => Int.le_trans (h v hv) (g v hv)
theorem RV.relax_le (h : RV n rs) {out : List Int} (hl : out.length = n) {k : Nat} (hk : k < rs.length) : LeAll n (relax out rs k) out := fun v hv => by
  rw [h.relax_at hl hk v hv]
  split
  · omega
  · split <;> omega
/-- behind a road's turn its towns are no farther apart than its miles -/
theorem RV.relax_edge (h : RV n rs) {a : Nat} {out : List Int} (ho : FarOk n rs a out) {k : Nat} (hk : k < rs.length) {u v : Nat} (hu : u < n) (hv : v < n) (hh : hit rs u v k = true) : a1 (relax out rs k) v ≤ a1 out u + c3 rs k := by
  rw [hit_iff] at hh
  obtain ⟨g1, g2, g3, g4, g5⟩ := h.road k hk
  have h0 := (ho.2 u hu).1
  rw [h.relax_at ho.1 hk v hv]
  by_cases e1 : (v : Int) = b3 rs k
  · rw [if_pos e1]
    have : (a3 rs k).toNat = u := by omega
    rw [this]
    omega
  · rw [if_neg e1, if_pos (by omega)]
    have : (b3 rs k).toNat = u := by omega
    rw [this]
    omega
theorem RV.relaxTo_ok (h : RV n rs) {a : Nat} {out : List Int} (ho : FarOk n rs a out) : ∀ k, k ≤ rs.length → FarOk n rs a (relaxTo rs out k) ∧ LeAll n (relaxTo rs out k) out := by
  intro k
  induction k with
  | zero => intro _; exact ⟨ho, fun v _ => Int.le_refl _⟩
  | succ k ih =>
    intro hk
    obtain ⟨i1, i2⟩ := ih (by omega)
    exact ⟨h.relax_ok i1 (by omega), (h.relax_le i1.1 (by omega)).trans i2⟩
theorem RV.relaxTo_mono (h : RV n rs) {a : Nat} {out : List Int} (ho : FarOk n rs a out) {j : Nat} : ∀ k, j ≤ k → k ≤ rs.length → LeAll n (relaxTo rs out k) (relaxTo rs out j) := by
  intro k
  induction k with
  | zero => intro h1 _; obtain rfl : j = 0 := by omega
            exact fun v _ => Int.le_refl _
  | succ k ih =>
    intro h1 h2
    by_cases e : j = k + 1
    · subst e; exact fun v _ => Int.le_refl _
    · exact (h.relax_le (h.relaxTo_ok ho k (by omega)).1.1 (by omega)).trans (ih (by omega) (by omega))
theorem RV.round_edge (h : RV n rs) {a : Nat} {out : List Int} (ho : FarOk n rs a out) {u v : Nat} (hu : u < n) (hv : v < n) (he : 1 ≤ eN rs v u) : a1 (relaxTo rs out rs.length) v ≤ eN rs v u + a1 out u := by
  unfold eN at he ⊢
  rcases edge_cases rs v u with ⟨h2, _, _⟩ | ⟨j, h2, _, h3, h4⟩
  · omega
  · rw [hit_comm] at h3
    have r1 := h.relaxTo_ok ho j (by omega)
    have r2 := h.relax_edge r1.1 h2 hu hv h3
    have r3 := h.relaxTo_mono ho (j := j + 1) rs.length (by omega) (Nat.le_refl _) v hv
    have r4 := r1.2 u hu
    rw [relaxTo] at r3
    omega
theorem farStart_ok (rs : List (Int × Int × Int)) {a : Nat} (ha : a < n) : FarOk n rs a (farStart n a) := by
  refine ⟨by simp [farStart], fun v hv => ?_⟩
  unfold farStart
  rw [a1_set _ (by simpa using ha)]
  by_cases e : a = v
  · subst e
    rw [if_pos rfl]
    exact ⟨by omega, fun _ => ⟨0, .nil ha⟩⟩
  · rw [if_neg e]
    have : a1 (List.replicate n 100000) v = 100000 := by unfold a1; rw [List.getD_eq_getElem?_getD, List.getElem?_replicate]; simp [hv]
    rw [this]
    exact ⟨by omega, fun h => by omega⟩
theorem RV.far_ok (h : RV n rs) {a : Nat} (ha : a < n) : ∀ t, FarOk n rs a (farRound rs (farStart n a) t) ∧ ∀ k v L, k ≤ t → Wk (eN rs) n k v a L → a1 (farRound rs (farStart n a) t) v ≤ L := by
  intro t
  induction t with
  | zero =>
    refine ⟨farStart_ok rs ha, fun k v L hk w => ?_⟩
    obtain rfl : k = 0 := by omega
    rcases w.cases with ⟨_, rfl, rfl⟩ | ⟨_, _, _, h1, _⟩
    · rw [farRound, farStart, a1_set _ (by simpa using ha), if_pos rfl]
      exact Int.le_refl _
    · omega
  | succ t ih =>
    obtain ⟨i1, i2⟩ := ih
    obtain ⟨r1, r2⟩ := h.relaxTo_ok i1 rs.length (Nat.le_refl _)
    refine ⟨r1, fun k v L hk w => ?_⟩
    rcases w.cases with ⟨rfl, rfl, rfl⟩ | ⟨b, j, M, rfl, h1, h2, rfl⟩
    · exact Int.le_trans (r2 v ha) (i2 0 v 0 (by omega) w)
    · have h3 := i2 j b M (by omega) h2
      have h4 := h.round_edge i1 h2.lt_l w.lt_l h1
      rw [farRound]
      omega
theorem RV.farList_at (h : RV n rs) {a : Nat} (ha : a < n) {v : Nat} (hv : v < n) : (a1 (farList n rs a) v = 100000 ∧ NoWay (eN rs) n a v) ∨ (a1 (farList n rs a) v ≤ 800 ∧ IsD (eN rs) n a v (a1 (farList n rs a) v)) := by
  obtain ⟨⟨_, h1⟩, h2⟩ := h.far_ok ha n
  obtain ⟨o, w⟩ := h1 v hv
  have hmin : ∀ k L, Wk (eN rs) n k v a L → a1 (farList n rs a) v ≤ L := fun k L g => by
    obtain ⟨j, M, j1, j2, j3⟩ := g.short
    have := h2 j v M (by omega) j3
    exact Int.le_trans this j2
  by_cases c : a1 (farList n rs a) v < 100000
  · obtain ⟨k, wk⟩ := w c
    have hd : IsD (eN rs) n v a (a1 (farList n rs a) v) := ⟨⟨k, wk⟩, hmin⟩
    have := hd.le h.eN_le
    have := h.n8
    exact .inr ⟨by omega, hd.rev (eN_comm rs)⟩
  · refine .inl ⟨by unfold farList at c ⊢; omega, fun k L g => ?_⟩
    have g' := g.rev (eN_comm rs)
    obtain ⟨j, M, j1, j2, j3⟩ := g'.short
    have := hmin _ _ j3
    have := j3.le h.eN_le
    have := h.n8
    omega
theorem RV.farList_len (h : RV n rs) {a : Nat} (ha : a < n) : (farList n rs a).length = n := (h.far_ok ha n).1.1
theorem RV.dist_at (h : RV n rs) {a v : Nat} (ha : a < n) (hv : v < n) : (dist n rs a v = -1 ∧ NoWay (eN rs) n a v) ∨ (0 ≤ dist n rs a v ∧ dist n rs a v ≤ 800 ∧ IsD (eN rs) n a v (dist n rs a v)) := by
  unfold dist
  rcases h.farList_at ha hv with ⟨h1, h2⟩ | ⟨h1, h2⟩
  · rw [h1, if_pos (by omega)]
    exact .inl ⟨rfl, h2⟩
  · have := h2.ge
    rw [if_neg (by omega)]
    exact .inr ⟨this, h1, h2⟩
end
end Go.Proofs.Ytdnjeahbnidefaa

/- Plain laws: which towns are joined; a road more, a road less; roads told by their indexes. No program is named here. -/
namespace Go.Proofs.Ytdnjeahbnidefaa

section
variable {e e' : Nat → Nat → Int} {n : Nat}
/-- there is a way -/
def Cn (e : Nat → Nat → Int) (n u v : Nat) : Prop := ∃ k L, Wk e n k u v L
theorem Cn.refl {u : Nat} (h : u < n) : Cn e n u u := ⟨0, 0, .nil h⟩
theorem Cn.trans {u v x : Nat} (h : Cn e n u v) (g : Cn e n v x) : Cn e n u x := by
  obtain ⟨k, L, h⟩ := h
  obtain ⟨j, M, g⟩ := g
  exact ⟨_, _, h.append g⟩
theorem Cn.symm (hs : ∀ a b, e a b = e b a) {u v : Nat} (h : Cn e n u v) : Cn e n v u := by
  obtain ⟨k, L, h⟩ := h
  exact ⟨_, _, h.rev hs⟩
theorem Cn.one {u v : Nat} (hu : u < n) (hv : v < n) (h : 1 ≤ e u v) : Cn e n u v := ⟨_, _, Wk.one hu hv h⟩
theorem Cn.lt_l {u v : Nat} (h : Cn e n u v) : u < n := by obtain ⟨k, L, h⟩ := h; exact h.lt_l
theorem Cn.lt_r {u v : Nat} (h : Cn e n u v) : v < n := by obtain ⟨k, L, h⟩ := h; exact h.lt_r
theorem noWay_iff {u v : Nat} : NoWay e n u v ↔ ¬ Cn e n u v := ⟨fun h ⟨k, L, g⟩ => h k L g, fun h k L g => h ⟨k, L, g⟩⟩
/-- a way in other edges that join what each edge joins -/
theorem Wk.reroute {k u v : Nat} {L : Int} (h : Wk e n k u v L) (hm : ∀ a b, a < n → b < n → 1 ≤ e a b → Cn e' n a b) : Cn e' n u v := by
  induction h with
  | nil h => exact .refl h
  | cons h1 h2 h3 ih => exact (hm _ _ h1 h3.lt_l h2).trans ih
theorem Cn.reroute {u v : Nat} (h : Cn e n u v) (hm : ∀ a b, a < n → b < n → 1 ≤ e a b → Cn e' n a b) : Cn e' n u v := by
  obtain ⟨k, L, h⟩ := h
  exact h.reroute hm
theorem Cn.mono {u v : Nat} (h : Cn e n u v) (hm : ∀ a b, 1 ≤ e a b → 1 ≤ e' a b) : Cn e' n u v := h.reroute fun a b ha hb hab => .one ha hb (hm a b hab)
/-- with one edge more -/
theorem Cn.add {x y u v : Nat} (h : Cn e' n u v) (hx : x < n) (hy : y < n) (hm : ∀ a b, 1 ≤ e' a b → 1 ≤ e a b ∨ (a = x ∧ b = y) ∨ (a = y ∧ b = x)) :
    Cn e n u v ∨ (Cn e n u x ∧ Cn e n y v) ∨ (Cn e n u y ∧ Cn e n x v) := by
  obtain ⟨k, L, h⟩ := h
  induction h with
  | nil h => exact .inl (.refl h)
  | cons h1 h2 h3 ih =>
    rcases hm _ _ h2 with g | ⟨rfl, rfl⟩ | ⟨rfl, rfl⟩
    · have g' := Cn.one h1 h3.lt_l g
      rcases ih with i | ⟨i, j⟩ | ⟨i, j⟩
      · exact .inl (g'.trans i)
      · exact .inr (.inl ⟨g'.trans i, j⟩)
      · exact .inr (.inr ⟨g'.trans i, j⟩)
    · rcases ih with i | ⟨i, j⟩ | ⟨i, j⟩
      · exact .inr (.inl ⟨.refl h1, i⟩)
      · exact .inr (.inl ⟨.refl h1, j⟩)
      · exact .inl j
    · rcases ih with i | ⟨i, j⟩ | ⟨i, j⟩
      · exact .inr (.inr ⟨.refl h1, i⟩)
      · exact .inl j
      · exact .inr (.inr ⟨.refl h1, j⟩)
/-- longer edges, or fewer, give no shorter ways -/
theorem Wk.more {k u v : Nat} {L : Int} (h : Wk e n k u v L) (hm : ∀ a b, 1 ≤ e a b → 1 ≤ e' a b ∧ e' a b ≤ e a b) : ∃ M, Wk e' n k u v M ∧ M ≤ L := by
  induction h with
  | nil h => exact ⟨0, .nil h, Int.le_refl _⟩
  | cons h1 h2 h3 ih =>
    obtain ⟨M, i1, i2⟩ := ih
    obtain ⟨g1, g2⟩ := hm _ _ h2
    exact ⟨_, .cons h1 g1 i1, by omega⟩
/-- a way that is shorter than an edge does not go over it -/
theorem Wk.avoid {k u v : Nat} {L m : Int} (h : Wk e n k u v L) (hL : L < m) (hm : ∀ a b, 1 ≤ e a b → e a b < m → e' a b = e a b) : Wk e' n k u v L := by
  induction h with
  | nil h => exact .nil h
  | @cons a b c k L h1 h2 h3 ih =>
    have := h3.ge
    have he := hm a b h2 (by omega)
    rw [← he]
    exact .cons h1 (by omega) (ih (by omega))
end

section
variable {n : Nat} {rs qs : List (Int × Int × Int)}
/-- a road joins two towns -/
def joins (r : Int × Int × Int) (a b : Int) : Prop := r.1 = min a b ∧ r.2.1 = max a b
theorem joins_comm {r : Int × Int × Int} {a b : Int} (h : joins r a b) : joins r b a := by
  unfold joins at *; rw [Int.min_comm, Int.max_comm]; exact h
theorem get3 (rs : List (Int × Int × Int)) (k : Nat) : rs.getD k (0, 0, 0) = (a3 rs k, b3 rs k, c3 rs k) := rfl
theorem mem3 {r : Int × Int × Int} : r ∈ rs ↔ ∃ k, k < rs.length ∧ rs.getD k (0, 0, 0) = r := by
  rw [List.mem_iff_getElem]
  constructor
  · rintro ⟨k, h, rfl⟩
    exact ⟨k, h, by simp [h]⟩
  · rintro ⟨k, h, rfl⟩
    exact ⟨k, h, by simp [h]⟩
theorem RV.edge_mem (h : RV n rs) {r : Int × Int × Int} (hr : r ∈ rs) {a b : Int} (hj : joins r a b) : edge rs a b = r.2.2 ∧ 1 ≤ r.2.2 := by
  obtain ⟨k, hk, rfl⟩ := mem3.1 hr
  have h1 : hit rs a b k = true := hit_iff.2 hj
  unfold edge edgeTo
  rw [h.find_hit hk (Nat.le_refl _) h1, if_pos (by omega)]
  exact ⟨rfl, (h.road k hk).2.2.2.1⟩
theorem RV.edge_from (_h : RV n rs) {a b : Int} (he : 0 ≤ edge rs a b) : ∃ r, r ∈ rs ∧ joins r a b ∧ edge rs a b = r.2.2 := by
  rcases edge_cases rs a b with ⟨h2, _, _⟩ | ⟨j, h2, _, h3, h4⟩
  · omega
  · exact ⟨_, mem3.2 ⟨j, h2, rfl⟩, hit_iff.1 h3, h4⟩
theorem RV.edge_iff (h : RV n rs) {a b : Int} : 1 ≤ edge rs a b ↔ ∃ r, r ∈ rs ∧ joins r a b := by
  constructor
  · intro he
    obtain ⟨r, h1, h2, _⟩ := h.edge_from (a := a) (b := b) (by omega)
    exact ⟨r, h1, h2⟩
  · rintro ⟨r, h1, h2⟩
    obtain ⟨h3, h4⟩ := h.edge_mem h1 h2
    omega
/-- the edges are told by which roads there are -/
theorem RV.edge_sub (h : RV n rs) (g : RV n qs) (hs : ∀ r, r ∈ qs → r ∈ rs) (a b : Int) (he : 0 ≤ edge qs a b) : edge rs a b = edge qs a b := by
  obtain ⟨r, h1, h2, h3⟩ := g.edge_from he
  rw [h3]
  exact (h.edge_mem (hs r h1) h2).1
theorem RV.edge_same (h : RV n rs) (g : RV n qs) (hs : ∀ r, r ∈ qs ↔ r ∈ rs) (a b : Int) : edge rs a b = edge qs a b := by
  by_cases he : 0 ≤ edge qs a b
  · exact h.edge_sub g (fun r => (hs r).1) a b he
  · have h1 := g.edge_le a b
    have h2 := h.edge_le a b
    by_cases hf : 0 ≤ edge rs a b
    · exact (g.edge_sub h (fun r => (hs r).2) a b hf).symm
    · omega
theorem RV.far_same (h : RV n rs) (g : RV n qs) (hs : ∀ r, r ∈ qs ↔ r ∈ rs) {a b : Nat} (ha : a < n) (hb : b < n) : dist n rs a b = dist n qs a b := by
  have e : eN rs = eN qs := by funext x y; exact h.edge_same g hs x y
  rcases h.dist_at ha hb with ⟨h1, h2⟩ | ⟨h0, h1, h2⟩
  · rcases g.dist_at ha hb with ⟨g1, g2⟩ | ⟨g0, g1, g2⟩
    · rw [h1, g1]
    · rw [e] at h2
      obtain ⟨⟨k, w⟩, _⟩ := g2
      exact absurd w (h2 _ _)
  · rcases g.dist_at ha hb with ⟨g1, g2⟩ | ⟨g0, g1, g2⟩
    · rw [e] at h2
      obtain ⟨⟨k, w⟩, _⟩ := h2
      exact absurd w (g2 _ _)
    · rw [e] at h2
      exact h2.unique g2
theorem RV.dist_ge_iff (h : RV n rs) {a b : Nat} (ha : a < n) (hb : b < n) : 0 ≤ dist n rs a b ↔ Cn (eN rs) n a b := by
  rcases h.dist_at ha hb with ⟨h1, h2⟩ | ⟨h0, h1, h2⟩
  · rw [noWay_iff] at h2
    exact ⟨fun g => by omega, fun g => absurd g h2⟩
  · obtain ⟨⟨k, w⟩, _⟩ := h2
    exact ⟨fun _ => ⟨_, _, w⟩, fun _ => h0⟩
theorem RV.dist_neg_iff (h : RV n rs) {a b : Nat} (ha : a < n) (hb : b < n) : dist n rs a b < 0 ↔ ¬ Cn (eN rs) n a b := by
  rw [← h.dist_ge_iff ha hb]; omega
theorem RV.dist_is (h : RV n rs) {a b : Nat} (ha : a < n) (hb : b < n) (hd : 0 ≤ dist n rs a b) : IsD (eN rs) n a b (dist n rs a b) := by
  rcases h.dist_at ha hb with ⟨h1, h2⟩ | ⟨h0, h1, h2⟩
  · omega
  · exact h2
theorem RV.dist_comm (h : RV n rs) {a b : Nat} (ha : a < n) (hb : b < n) : dist n rs a b = dist n rs b a := by
  rcases h.dist_at ha hb with ⟨h1, h2⟩ | ⟨h0, h1, h2⟩
  · rcases h.dist_at hb ha with ⟨g1, g2⟩ | ⟨g0, g1, g2⟩
    · rw [h1, g1]
    · obtain ⟨⟨k, w⟩, _⟩ := g2
      exact absurd w ((h2.rev (eN_comm rs)) _ _)
  · rcases h.dist_at hb ha with ⟨g1, g2⟩ | ⟨g0, g1, g2⟩
    · obtain ⟨⟨k, w⟩, _⟩ := h2
      exact absurd w ((g2.rev (eN_comm rs)) _ _)
    · exact h2.unique (g2.rev (eN_comm rs))

/-- the roads at some indexes -/
def pick3 (rs : List (Int × Int × Int)) (is : List Nat) : List (Int × Int × Int) := is.map fun i => rs.getD i (0, 0, 0)
theorem pick3_at (rs : List (Int × Int × Int)) (is : List Nat) (k : Nat) (hk : k < is.length) : (pick3 rs is).getD k (0, 0, 0) = rs.getD (is.getD k 0) (0, 0, 0) := by
  unfold pick3
  rw [List.getD_eq_getElem?_getD, List.getElem?_map, List.getElem?_eq_getElem hk, List.getD_eq_getElem?_getD (l := is), List.getElem?_eq_getElem hk]
  rfl
theorem RV.pick (h : RV n rs) {is : List Nat} (hi : ∀ i ∈ is, i < rs.length) (hn : is.Nodup) : RV n (pick3 rs is) := by
  have hlen : (pick3 rs is).length = is.length := by simp [pick3]
  have hat : ∀ k, k < is.length → is.getD k 0 < rs.length := fun k hk => hi _ (by rw [List.getD_eq_getElem?_getD, List.getElem?_eq_getElem hk]; simp)
  have hp := pigeon rs.length is hn hi
  refine ⟨h.n1, h.n8, by rw [hlen]; have := h.l16; omega, fun k hk => ?_, fun j k hj hk => ?_⟩
  · rw [hlen] at hk
    have := h.road _ (hat k hk)
    unfold a3 b3 c3 at *
    rw [pick3_at _ _ _ hk]
    exact this
  · rw [hlen] at hk
    have hne : is.getD j 0 ≠ is.getD k 0 := fun e => by
      rw [List.getD_eq_getElem?_getD, List.getD_eq_getElem?_getD, List.getElem?_eq_getElem (show j < is.length by omega), List.getElem?_eq_getElem hk] at e
      have := (List.pairwise_iff_getElem.1 hn) j k (by omega) hk hj
      exact this e
    unfold a3 b3
    rw [pick3_at _ _ _ hk, pick3_at _ _ _ (by omega)]
    intro e
    rcases Nat.lt_or_gt_of_ne hne with c | c
    · exact h.apart _ _ c (hat k hk) e
    · exact h.apart _ _ c (hat j (by omega)) ⟨e.1.symm, e.2.symm⟩
theorem mem_pick3 {is : List Nat} {r : Int × Int × Int} : r ∈ pick3 rs is ↔ ∃ i, i ∈ is ∧ rs.getD i (0, 0, 0) = r := by
  unfold pick3; rw [List.mem_map]
/-- two roads at different indexes are different -/
theorem RV.at_inj (h : RV n rs) {i j : Nat} (hi : i < rs.length) (hj : j < rs.length) (e : rs.getD i (0, 0, 0) = rs.getD j (0, 0, 0)) : i = j := by
  rcases Nat.lt_trichotomy i j with c | c | c
  · exact absurd ⟨congrArg (·.1) e, congrArg (·.2.1) e⟩ (h.apart i j c hj)
  · exact c
  · exact absurd ⟨(congrArg (·.1) e).symm, (congrArg (·.2.1) e).symm⟩ (h.apart j i c hi)
/-- two roads that join the same towns are one -/
theorem RV.join_one (h : RV n rs) {r s : Int × Int × Int} (hr : r ∈ rs) (hs : s ∈ rs) {a b : Int} (h1 : joins r a b) (h2 : joins s a b) : r = s := by
  obtain ⟨i, hi, rfl⟩ := mem3.1 hr
  obtain ⟨j, hj, rfl⟩ := mem3.1 hs
  have := h.hit_one hi hj (hit_iff.2 h1) (hit_iff.2 h2)
  rw [this]
/-- the roads without one -/
def lessR (rs : List (Int × Int × Int)) (k : Nat) : List (Int × Int × Int) := rs.take k ++ rs.drop (k + 1)
theorem without_len (k : Nat) (hk : k < rs.length) : (lessR rs k).length = rs.length - 1 := by
  unfold lessR; rw [List.length_append, List.length_take, List.length_drop]; omega
theorem without_at (k j : Nat) (hk : k < rs.length) : (lessR rs k).getD j (0, 0, 0) = rs.getD (if j < k then j else j + 1) (0, 0, 0) := by
  unfold lessR
  rw [List.getD_eq_getElem?_getD]
  by_cases h : j < k
  · rw [if_pos h, List.getElem?_append_left (by rw [List.length_take]; omega), List.getElem?_take_of_lt h, List.getD_eq_getElem?_getD]
  · rw [if_neg h, List.getElem?_append_right (by rw [List.length_take]; omega), List.length_take, List.getElem?_drop, List.getD_eq_getElem?_getD]
    congr 2
    omega
theorem RV.without (h : RV n rs) {k : Nat} (hk : k < rs.length) : RV n (lessR rs k) := by
  have hl := without_len k hk
  refine ⟨h.n1, h.n8, by have := h.l16; omega, fun j hj => ?_, fun i j hi hj => ?_⟩
  · unfold a3 b3 c3
    rw [without_at k j hk]
    exact h.road _ (by split <;> omega)
  · unfold a3 b3
    rw [without_at k j hk, without_at k i hk]
    exact h.apart _ _ (by split <;> split <;> omega) (by split <;> omega)
theorem RV.mem_without (h : RV n rs) {k : Nat} (hk : k < rs.length) {r : Int × Int × Int} : r ∈ lessR rs k ↔ r ∈ rs ∧ r ≠ rs.getD k (0, 0, 0) := by
  constructor
  · intro hr
    obtain ⟨j, hj, rfl⟩ := mem3.1 hr
    rw [without_len k hk] at hj
    rw [without_at k j hk]
    refine ⟨mem3.2 ⟨_, by split <;> omega, rfl⟩, fun e => ?_⟩
    have := h.at_inj (by split <;> omega) hk e
    split at this <;> omega
  · rintro ⟨hr, hne⟩
    obtain ⟨j, hj, rfl⟩ := mem3.1 hr
    have hjk : j ≠ k := fun e => hne (by rw [e])
    refine mem3.2 ⟨if j < k then j else j - 1, by rw [without_len k hk]; split <;> omega, ?_⟩
    rw [without_at k _ hk]
    congr 1
    by_cases c : j < k
    · rw [if_pos c, if_pos c]
    · rw [if_neg c, if_neg (by omega)]; omega
end
end Go.Proofs.Ytdnjeahbnidefaa

/- Plain laws: the shortest net (Kruskal): no road in it is needless, all that is joined stays joined. No program is named here. -/
namespace Go.Proofs.Ytdnjeahbnidefaa

section
variable {n : Nat} {rs : List (Int × Int × Int)}
/-- what indexes of roads are -/
def IsIdx (rs : List (Int × Int × Int)) (T : List Nat) : Prop := T.Nodup ∧ ∀ i ∈ T, i < rs.length
/-- the towns that the i-th road joins -/
def tA (rs : List (Int × Int × Int)) (i : Nat) : Nat := (a3 rs i).toNat
def tB (rs : List (Int × Int × Int)) (i : Nat) : Nat := (b3 rs i).toNat
theorem RV.towns (h : RV n rs) {i : Nat} (hi : i < rs.length) : (tA rs i : Int) = a3 rs i ∧ (tB rs i : Int) = b3 rs i ∧ tA rs i < n ∧ tB rs i < n ∧ tA rs i ≠ tB rs i := by
  obtain ⟨g1, g2, g3, _⟩ := h.road i hi
  unfold tA tB
  omega
/-- the edges of the roads at some indexes -/
def eT (rs : List (Int × Int × Int)) (T : List Nat) : Nat → Nat → Int := eN (pick3 rs T)
theorem eT_comm (rs : List (Int × Int × Int)) (T : List Nat) (a b : Nat) : eT rs T a b = eT rs T b a := eN_comm _ _ _
theorem RV.adj (h : RV n rs) {T : List Nat} (hT : IsIdx rs T) {a b : Nat} : 1 ≤ eT rs T a b ↔ ∃ i, i ∈ T ∧ ((a = tA rs i ∧ b = tB rs i) ∨ (a = tB rs i ∧ b = tA rs i)) := by
  unfold eT eN
  rw [(h.pick hT.2 hT.1).edge_iff]
  constructor
  · rintro ⟨r, hr, hj⟩
    obtain ⟨i, hi, rfl⟩ := mem_pick3.1 hr
    have ht := h.towns (hT.2 i hi)
    obtain ⟨g1, g2, _⟩ := h.road i (hT.2 i hi)
    refine ⟨i, hi, ?_⟩
    have h1 : a3 rs i = min (a : Int) b := hj.1
    have h2 : b3 rs i = max (a : Int) b := hj.2
    omega
  · rintro ⟨i, hi, hab⟩
    have ht := h.towns (hT.2 i hi)
    obtain ⟨g1, g2, _⟩ := h.road i (hT.2 i hi)
    refine ⟨_, mem_pick3.2 ⟨i, hi, rfl⟩, ?_, ?_⟩
    · show a3 rs i = min (a : Int) b
      omega
    · show b3 rs i = max (a : Int) b
      omega
theorem RV.adj_mono (h : RV n rs) {T U : List Nat} (hT : IsIdx rs T) (hU : IsIdx rs U) (hs : ∀ i ∈ T, i ∈ U) {a b : Nat} (hab : 1 ≤ eT rs T a b) : 1 ≤ eT rs U a b := by
  rw [h.adj hT] at hab
  rw [h.adj hU]
  obtain ⟨i, h1, h2⟩ := hab
  exact ⟨i, hs i h1, h2⟩
theorem RV.cn_mono (h : RV n rs) {T U : List Nat} (hT : IsIdx rs T) (hU : IsIdx rs U) (hs : ∀ i ∈ T, i ∈ U) {a b : Nat} (hab : Cn (eT rs T) n a b) : Cn (eT rs U) n a b :=
  hab.mono fun _ _ => h.adj_mono hT hU hs
theorem RV.cn_road (h : RV n rs) {T : List Nat} (hT : IsIdx rs T) {i : Nat} (hi : i ∈ T) : Cn (eT rs T) n (tA rs i) (tB rs i) := by
  have ht := h.towns (hT.2 i hi)
  exact .one ht.2.2.1 ht.2.2.2.1 ((h.adj hT).2 ⟨i, hi, .inl ⟨rfl, rfl⟩⟩)
/-- all indexes but one -/
def butI (T : List Nat) (i : Nat) : List Nat := T.filter fun j => !decide (j = i)
theorem mem_butI {T : List Nat} {i j : Nat} : j ∈ butI T i ↔ j ∈ T ∧ j ≠ i := by
  unfold butI; rw [List.mem_filter]; simp
theorem IsIdx.but {T : List Nat} (h : IsIdx rs T) (i : Nat) : IsIdx rs (butI T i) := ⟨h.1.filter _, fun j hj => h.2 j (mem_butI.1 hj).1⟩
theorem IsIdx.filter {T : List Nat} (h : IsIdx rs T) (p : Nat → Bool) : IsIdx rs (T.filter p) := ⟨h.1.filter _, fun j hj => h.2 j (List.mem_filter.1 hj).1⟩
/-- no road can be spared -/
def Forest (n : Nat) (rs : List (Int × Int × Int)) (T : List Nat) : Prop := IsIdx rs T ∧ ∀ i ∈ T, ¬ Cn (eT rs (butI T i)) n (tA rs i) (tB rs i)
theorem IsIdx.snoc {T : List Nat} (h : IsIdx rs T) {g : Nat} (hg : g ∉ T) (hl : g < rs.length) : IsIdx rs (T ++ [g]) :=
  ⟨List.nodup_append.2 ⟨h.1, by simp, fun a ha b hb => by cases List.mem_singleton.1 hb; exact fun e => hg (e ▸ ha)⟩, fun i hi => by
    rcases List.mem_append.1 hi with hi | hi
    · exact h.2 i hi
    · cases List.mem_singleton.1 hi; exact hl⟩
theorem RV.forest_snoc (h : RV n rs) {T : List Nat} (hF : Forest n rs T) {g : Nat} (hl : g < rs.length) (hc : ¬ Cn (eT rs T) n (tA rs g) (tB rs g)) : g ∉ T ∧ Forest n rs (T ++ [g]) := by
  obtain ⟨hT, hF⟩ := hF
  have hg : g ∉ T := fun hm => hc (h.cn_road hT hm)
  have hT' := hT.snoc hg hl
  refine ⟨hg, hT', fun i hi hcn => ?_⟩
  by_cases e : i = g
  · subst e
    exact hc (h.cn_mono (hT'.but i) hT (fun j hj => by
      obtain ⟨j1, j2⟩ := mem_butI.1 hj
      rcases List.mem_append.1 j1 with j1 | j1
      · exact j1
      · exact absurd (List.mem_singleton.1 j1) j2) hcn)
  · have hiT : i ∈ T := by
      rcases List.mem_append.1 hi with hi | hi
      · exact hi
      · exact absurd (List.mem_singleton.1 hi) e
    have hg3 := h.towns hl
    have hbut : ∀ a b, Cn (eT rs (butI T i)) n a b → Cn (eT rs T) n a b := fun a b => h.cn_mono (hT.but i) hT (fun j hj => (mem_butI.1 hj).1)
    have hroad := h.cn_road hT hiT
    rcases hcn.add hg3.2.2.1 hg3.2.2.2.1 (e := eT rs (butI T i)) (fun a b hab => by
      rw [h.adj (hT'.but i)] at hab
      obtain ⟨j, j1, j2⟩ := hab
      obtain ⟨j3, j4⟩ := mem_butI.1 j1
      rcases List.mem_append.1 j3 with j3 | j3
      · exact .inl ((h.adj (hT.but i)).2 ⟨j, mem_butI.2 ⟨j3, j4⟩, j2⟩)
      · cases List.mem_singleton.1 j3
        exact .inr j2) with c | ⟨c1, c2⟩ | ⟨c1, c2⟩
    · exact hF i hiT c
    · exact hc (((hbut _ _ c1).symm (eT_comm rs T)).trans (hroad.trans ((hbut _ _ c2).symm (eT_comm rs T))))
    · exact hc ((hbut _ _ c2).trans ((hroad.symm (eT_comm rs T)).trans (hbut _ _ c1)))
/-- one road's turn -/
def kstep (n : Nat) (rs : List (Int × Int × Int)) (T : List Nat) (i : Nat) : List Nat := if dist n (pick3 rs T) (tA rs i) (tB rs i) < 0 then T ++ [i] else T
def kr (n : Nat) (rs : List (Int × Int × Int)) (T : List Nat) (order : List Nat) : List Nat := order.foldl (kstep n rs) T
theorem RV.kstep_law (h : RV n rs) {T : List Nat} (hF : Forest n rs T) {g : Nat} (hl : g < rs.length) :
    Forest n rs (kstep n rs T g) ∧ (∀ i ∈ T, i ∈ kstep n rs T g) ∧ (∀ i ∈ kstep n rs T g, i ∈ T ∨ i = g) ∧ Cn (eT rs (kstep n rs T g)) n (tA rs g) (tB rs g) ∧ (g ∈ kstep n rs T g ∨ Cn (eT rs T) n (tA rs g) (tB rs g)) := by
  have hp := h.pick hF.1.2 hF.1.1
  have ht := h.towns hl
  have hd := hp.dist_neg_iff ht.2.2.1 ht.2.2.2.1
  unfold kstep
  by_cases c : dist n (pick3 rs T) (tA rs g) (tB rs g) < 0
  · rw [if_pos c]
    obtain ⟨h1, h2⟩ := h.forest_snoc hF hl (hd.1 c)
    exact ⟨h2, fun i hi => by simp [hi], fun i hi => by simpa using hi, h.cn_road h2.1 (by simp), .inl (by simp)⟩
  · rw [if_neg c]
    have hc : Cn (eT rs T) n (tA rs g) (tB rs g) := Classical.byContradiction fun hc => c (hd.2 hc)
    exact ⟨hF, fun i hi => hi, fun i hi => .inl hi, hc, .inr hc⟩
theorem RV.kr_law (h : RV n rs) : ∀ (order T : List Nat), Forest n rs T → (∀ i ∈ order, i < rs.length) →
    Forest n rs (kr n rs T order) ∧ (∀ i ∈ T, i ∈ kr n rs T order) ∧ (∀ i ∈ kr n rs T order, i ∈ T ∨ i ∈ order) ∧ ∀ g ∈ order, Cn (eT rs (kr n rs T order)) n (tA rs g) (tB rs g) := by
  intro order
  induction order with
  | nil => intro T hF _; exact ⟨hF, fun i hi => hi, fun i hi => .inl hi, fun g hg => by cases hg⟩
  | cons g order ih =>
    intro T hF hl
    obtain ⟨s1, s2, s3, s4, _⟩ := h.kstep_law hF (hl g (by simp))
    obtain ⟨i1, i2, i3, i4⟩ := ih (kstep n rs T g) s1 (fun i hi => hl i (by simp [hi]))
    refine ⟨i1, fun i hi => i2 i (s2 i hi), fun i hi => ?_, fun j hj => ?_⟩
    · rcases i3 i hi with c | c
      · rcases s3 i c with c | rfl
        · exact .inl c
        · exact .inr (by simp)
      · exact .inr (by simp [c])
    · rcases List.mem_cons.1 hj with rfl | hj
      · exact h.cn_mono s1.1 i1.1 i2 s4
      · exact i4 j hj
/-- each road's towns are joined by net roads that are no longer -/
theorem RV.kr_short (h : RV n rs) : ∀ (order T : List Nat), Forest n rs T → (∀ i ∈ order, i < rs.length) → order.Pairwise (fun i j => c3 rs i ≤ c3 rs j) → (∀ i ∈ T, ∀ j ∈ order, c3 rs i ≤ c3 rs j) →
    ∀ g ∈ order, Cn (eT rs ((kr n rs T order).filter fun i => decide (c3 rs i ≤ c3 rs g))) n (tA rs g) (tB rs g) := by
  intro order
  induction order with
  | nil => intro T _ _ _ _ g hg; cases hg
  | cons g order ih =>
    intro T hF hl hs hT j hj
    obtain ⟨s1, s2, s3, s4, _⟩ := h.kstep_law hF (hl g (by simp))
    obtain ⟨p1, p2⟩ := List.pairwise_cons.1 hs
    obtain ⟨i1, i2, i3, i4⟩ := h.kr_law order (kstep n rs T g) s1 (fun i hi => hl i (by simp [hi]))
    rcases List.mem_cons.1 hj with rfl | hj
    · refine h.cn_mono s1.1 (i1.1.filter _) (fun i hi => List.mem_filter.2 ⟨i2 i hi, ?_⟩) s4
      rw [decide_eq_true_eq]
      rcases s3 i hi with c | rfl
      · exact hT i c j (by simp)
      · exact Int.le_refl _
    · exact ih (kstep n rs T g) s1 (fun i hi => hl i (by simp [hi])) p2 (fun i hi k hk => by
        rcases s3 i hi with c | rfl
        · exact hT i c k (by simp [hk])
        · exact p1 k hk) j hj
/-- a road without which its towns are not joined is taken -/
theorem RV.kr_needed (h : RV n rs) : ∀ (order T : List Nat), Forest n rs T → (∀ i ∈ order, i < rs.length) → order.Nodup → (∀ i ∈ order, i ∉ T) → ∀ g ∈ order, ¬ Cn (eN (lessR rs g)) n (tA rs g) (tB rs g) → g ∈ kr n rs T order := by
  intro order
  induction order with
  | nil => intro T _ _ _ _ g hg; cases hg
  | cons g order ih =>
    intro T hF hl hn hT j hj hc
    obtain ⟨n1, n2⟩ := List.nodup_cons.1 hn
    obtain ⟨s1, s2, s3, s4, s5⟩ := h.kstep_law hF (hl g (by simp))
    obtain ⟨i1, i2, i3, i4⟩ := h.kr_law order (kstep n rs T g) s1 (fun i hi => hl i (by simp [hi]))
    rcases List.mem_cons.1 hj with rfl | hj'
    · refine i2 _ ?_
      rcases s5 with s5 | s5
      · exact s5
      · refine absurd (s5.mono fun a b hab => ?_) hc
        rw [h.adj hF.1] at hab
        obtain ⟨i, q1, q2⟩ := hab
        have hjl := hl j (by simp)
        have hil := hF.1.2 i q1
        have hij : i ≠ j := fun e => hT j (by simp) (e ▸ q1)
        have ht := h.towns hil
        obtain ⟨g1, g2, _⟩ := h.road i hil
        unfold eN
        rw [(h.without hjl).edge_iff]
        refine ⟨rs.getD i (0, 0, 0), (h.mem_without hjl).2 ⟨mem3.2 ⟨i, hil, rfl⟩, fun e => hij (h.at_inj hil hjl e)⟩, ?_, ?_⟩
        · show a3 rs i = min (a : Int) b
          omega
        · show b3 rs i = max (a : Int) b
          omega
    · exact ih (kstep n rs T g) s1 (fun i hi => hl i (by simp [hi])) n2 (fun i hi hm => by
        rcases s3 i hm with c | rfl
        · exact hT i (by simp [hi]) c
        · exact n1 hi) j hj' hc
end
end Go.Proofs.Ytdnjeahbnidefaa

/- Plain laws: how many roads join all towns. No program is named here. -/
namespace Go.Proofs.Ytdnjeahbnidefaa

section
variable {n : Nat} {rs : List (Int × Int × Int)}
/-- all towns are joined -/
def AllCn (e : Nat → Nat → Int) (n : Nat) : Prop := ∀ u v, u < n → v < n → Cn e n u v
theorem RV.parent (h : RV n rs) {T : List Nat} (hT : IsIdx rs T) (hc : AllCn (eT rs T) n) : ∃ (D : Nat → Int) (pe up : Nat → Nat), (∀ v, v < n → 0 ≤ D v) ∧ ∀ v, 0 < v → v < n → pe v ∈ T ∧ up v < n ∧ ((v = tA rs (pe v) ∧ up v = tB rs (pe v)) ∨ (v = tB rs (pe v) ∧ up v = tA rs (pe v))) ∧ D (up v) < D v := by
  have hp := h.pick hT.2 hT.1
  have h1 := h.n1
  have hge : ∀ v, v < n → 0 ≤ dist n (pick3 rs T) v 0 := fun v hv => (hp.dist_ge_iff hv h1).2 (hc v 0 hv h1)
  have key : ∀ v : Nat, ∃ p : Nat × Nat, 0 < v → v < n → p.1 ∈ T ∧ p.2 < n ∧ ((v = tA rs p.1 ∧ p.2 = tB rs p.1) ∨ (v = tB rs p.1 ∧ p.2 = tA rs p.1)) ∧ dist n (pick3 rs T) p.2 0 < dist n (pick3 rs T) v 0 := fun v => by
    by_cases c : 0 < v ∧ v < n
    · obtain ⟨v0, vn⟩ := c
      have hd := hp.dist_is vn h1 (hge v vn)
      obtain ⟨⟨k, w⟩, _⟩ := hd
      rcases w.cases with ⟨_, e, _⟩ | ⟨b, j, M, _, g1, g2, g3⟩
      · omega
      · obtain ⟨i, i1, i2⟩ := (h.adj hT).1 g1
        refine ⟨(i, b), fun _ _ => ⟨i1, g2.lt_l, i2, ?_⟩⟩
        have := (hp.dist_is g2.lt_l h1 (hge b g2.lt_l)).2 _ _ g2
        show dist n (pick3 rs T) b 0 < _
        omega
    · exact ⟨(0, 0), fun a b => absurd ⟨a, b⟩ c⟩
  obtain ⟨f, hf⟩ := Classical.axiomOfChoice key
  exact ⟨fun v => dist n (pick3 rs T) v 0, fun v => (f v).1, fun v => (f v).2, hge, hf⟩
theorem RV.many_roads (h : RV n rs) {T : List Nat} (hT : IsIdx rs T) (hc : AllCn (eT rs T) n) : n - 1 ≤ T.length := by
  obtain ⟨D, pe, up, d0, hp⟩ := h.parent hT hc
  have := nodup_le ((List.range (n - 1)).map fun k => pe (k + 1)) T (by
    rw [List.nodup_iff_pairwise_ne, List.pairwise_map]
    refine List.Pairwise.imp_of_mem ?_ (List.nodup_iff_pairwise_ne.1 List.nodup_range)
    intro a b ha hb hab e
    rw [List.mem_range] at ha hb
    obtain ⟨_, _, a3, a4⟩ := hp (a + 1) (by omega) (by omega)
    obtain ⟨_, _, b3, b4⟩ := hp (b + 1) (by omega) (by omega)
    have e' : pe (a + 1) = pe (b + 1) := e
    rw [e'] at a3
    have h1 : up (a + 1) = b + 1 := by omega
    have h2 : up (b + 1) = a + 1 := by omega
    rw [h1] at a4
    rw [h2] at b4
    omega) (fun x hx => by
    obtain ⟨k, hk, rfl⟩ := List.mem_map.1 hx
    rw [List.mem_range] at hk
    exact (hp (k + 1) (by omega) (by omega)).1)
  simpa using this
theorem RV.tree_roads (h : RV n rs) {T : List Nat} (hF : Forest n rs T) (hc : AllCn (eT rs T) n) : T.length = n - 1 := by
  have h0 := h.n1
  have hge := h.many_roads hF.1 hc
  obtain ⟨hT, hF⟩ := hF
  obtain ⟨D, pe, up, d0, hp⟩ := h.parent hT hc
  have hall : ∀ i : Nat, ∃ x : Nat, i ∈ T → 0 < x ∧ x < n ∧ pe x = i := fun i => by
    by_cases hi : i ∈ T
    · refine Classical.byContradiction fun hno => hF i hi ?_
      have hno' : ∀ x, 0 < x → x < n → pe x ≠ i := fun x a b e => hno ⟨x, fun _ => ⟨a, b, e⟩⟩
      have hz : ∀ (m v : Nat), v < n → D v < (m : Int) → Cn (eT rs (butI T i)) n v 0 := by
        intro m
        induction m with
        | zero => intro v hv hd; have := d0 v hv; omega
        | succ m ih =>
          intro v hv hd
          by_cases v0 : v = 0
          · subst v0; exact .refl hv
          · obtain ⟨p1, p2, p3, p4⟩ := hp v (by omega) hv
            have := hno' v (by omega) hv
            exact (Cn.one hv p2 ((h.adj (hT.but i)).2 ⟨pe v, mem_butI.2 ⟨p1, this⟩, p3⟩)).trans (ih (up v) p2 (by omega))
      have ht := h.towns (hT.2 i hi)
      have ha := d0 (tA rs i) ht.2.2.1
      have hb := d0 (tB rs i) ht.2.2.2.1
      exact (hz ((D (tA rs i)).toNat + 1) _ ht.2.2.1 (by omega)).trans ((hz ((D (tB rs i)).toNat + 1) _ ht.2.2.2.1 (by omega)).symm (eT_comm _ _))
    · exact ⟨0, fun h => absurd h hi⟩
  obtain ⟨f, hf⟩ := Classical.axiomOfChoice hall
  have := nodup_le (T.map f) ((List.range (n - 1)).map (· + 1)) (by
    rw [List.nodup_iff_pairwise_ne, List.pairwise_map]
    refine List.Pairwise.imp_of_mem ?_ (List.nodup_iff_pairwise_ne.1 hT.1)
    intro a b ha hb hab e
    have := (hf a ha).2.2
    have := (hf b hb).2.2
    simp_all) (fun x hx => by
    obtain ⟨i, hi, rfl⟩ := List.mem_map.1 hx
    obtain ⟨g1, g2, _⟩ := hf i hi
    exact List.mem_map.2 ⟨f i - 1, by rw [List.mem_range]; omega, by omega⟩)
  simp at this
  omega
/-- a road of a net that a shortest way goes over: nothing else joins its towns -/
theorem RV.chain_but (h : RV n rs) {T : List Nat} (hF : Forest n rs T) {f : Nat} (hf : f ∈ T) (D : Nat → Int) (ws : Nat → Nat) (m k : Nat) (hk : k < m) (hw : ∀ j, j ≤ m → ws j < n)
    (hs : ∀ j, j < m → 1 ≤ eT rs T (ws j) (ws (j + 1)) ∧ D (ws (j + 1)) < D (ws j)) (hfk : (ws k = tA rs f ∧ ws (k + 1) = tB rs f) ∨ (ws k = tB rs f ∧ ws (k + 1) = tA rs f)) : ¬ Cn (eT rs (butI T f)) n (ws 0) (ws m) := by
  intro hc
  have hmono : ∀ a b, a ≤ b → b ≤ m → D (ws b) ≤ D (ws a) ∧ (a < b → D (ws b) < D (ws a)) := by
    intro a b
    induction b with
    | zero => intro h1 _; obtain rfl : a = 0 := by omega
              exact ⟨Int.le_refl _, fun h => by omega⟩
    | succ b ih =>
      intro h1 h2
      by_cases e : a = b + 1
      · subst e; exact ⟨Int.le_refl _, fun h => by omega⟩
      · have := ih (by omega) (by omega)
        have := (hs b (by omega)).2
        exact ⟨by omega, fun _ => by omega⟩
  have hstep : ∀ j, j < m → j ≠ k → Cn (eT rs (butI T f)) n (ws j) (ws (j + 1)) := by
    intro j hj hne
    obtain ⟨h1, h2⟩ := hs j hj
    obtain ⟨i, i1, i2⟩ := (h.adj hF.1).1 h1
    refine .one (hw j (by omega)) (hw (j + 1) (by omega)) ((h.adj (hF.1.but f)).2 ⟨i, mem_butI.2 ⟨i1, fun e => ?_⟩, i2⟩)
    subst e
    rcases Nat.lt_or_gt_of_ne hne with c | c
    · have q1 := (hmono j k (by omega) (by omega)).2 c
      have q2 := (hmono j (k + 1) (by omega) (by omega)).2 (by omega)
      have e1 : ws j = ws k ∨ ws j = ws (k + 1) := by omega
      rcases e1 with e1 | e1 <;> rw [e1] at q1 q2 <;> omega
    · have q1 := (hmono k (j + 1) (by omega) (by omega)).2 (by omega)
      have q2 := (hmono (k + 1) (j + 1) (by omega) (by omega)).2 (by omega)
      have e1 : ws (j + 1) = ws k ∨ ws (j + 1) = ws (k + 1) := by omega
      rcases e1 with e1 | e1 <;> rw [e1] at q1 q2 <;> omega
  have hpart : ∀ a b, a ≤ b → b ≤ m → (b ≤ k ∨ k < a) → Cn (eT rs (butI T f)) n (ws a) (ws b) := by
    intro a b
    induction b with
    | zero => intro h1 _ _; obtain rfl : a = 0 := by omega
              exact .refl (hw 0 (by omega))
    | succ b ih =>
      intro h1 h2 h3
      by_cases e : a = b + 1
      · subst e; exact .refl (hw _ h2)
      · exact (ih (by omega) (by omega) (by omega)).trans (hstep b (by omega) (by omega))
  have hs1 := eT_comm rs (butI T f)
  have c1 := hpart 0 k (by omega) (by omega) (by omega)
  have c2 := hpart (k + 1) m (by omega) (by omega) (by omega)
  have c3 := (c1.symm hs1).trans (hc.trans (c2.symm hs1))
  rcases hfk with ⟨e1, e2⟩ | ⟨e1, e2⟩
  · rw [e1, e2] at c3
    exact hF.2 f hf c3
  · rw [e1, e2] at c3
    exact hF.2 f hf (c3.symm hs1)
end
end Go.Proofs.Ytdnjeahbnidefaa

/- Plain laws: the map of roads, road by road. No program is named here. -/
namespace Go.Proofs.Ytdnjeahbnidefaa

section
variable {rs : List (Int × Int × Int)} {k : Nat}
theorem hit_pair {x y t j : Int} (hxy : x < y) : (x = min t j ∧ y = max t j) ↔ (t = x ∧ j = y) ∨ (t = y ∧ j = x) := by omega
theorem edgeTo_neg (hc : ∀ j, j < k → 1 ≤ c3 rs j) (hxy : a3 rs k < b3 rs k) : freshTo rs k k = decide (edgeTo rs k (a3 rs k) (b3 rs k) < 0) := by
  have hh : ∀ j, hit rs (a3 rs k) (b3 rs k) j = (decide (a3 rs j = a3 rs k) && decide (b3 rs j = b3 rs k)) := fun j => by
    unfold hit
    rw [Int.min_eq_left (Int.le_of_lt hxy), Int.max_eq_right (Int.le_of_lt hxy)]
  unfold edgeTo
  rcases findTo_cases rs (a3 rs k) (b3 rs k) k with ⟨h1, h2⟩ | ⟨j, h1, h2, h3, h4⟩
  · rw [h1, if_neg (by omega), decide_eq_true (by omega), freshTo_iff]
    intro j hj hn
    have := h2 j hj
    rw [hh, decide_eq_true hn.1, decide_eq_true hn.2] at this
    cases this
  · rw [hh] at h3
    have := hc j h1
    rw [h2, if_pos (by omega), Int.toNat_natCast, decide_eq_false (by omega), freshTo_no h3 k h1]
theorem edgeTo_next (hf : freshTo rs k k = true) (hxy : a3 rs k < b3 rs k) (t j : Int) :
    edgeTo rs (k + 1) t j = if (t = a3 rs k ∧ j = b3 rs k) ∨ (t = b3 rs k ∧ j = a3 rs k) then c3 rs k else edgeTo rs k t j := by
  rw [freshTo_iff] at hf
  have hp := hit_pair (t := t) (j := j) hxy
  by_cases c : (t = a3 rs k ∧ j = b3 rs k) ∨ (t = b3 rs k ∧ j = a3 rs k)
  · rw [if_pos c]
    have h1 : hit rs t j k = true := by
      unfold hit
      rw [decide_eq_true (hp.2 c).1, decide_eq_true (hp.2 c).2]; rfl
    have h2 : findTo rs t j (k + 1) = (k : Int) := findTo_at (by omega) h1 (fun i hi => by
      cases hh : hit rs t j i
      · rfl
      · unfold hit at hh
        rw [Bool.and_eq_true, decide_eq_true_eq, decide_eq_true_eq] at hh
        exact absurd ⟨hh.1.trans (hp.2 c).1.symm, hh.2.trans (hp.2 c).2.symm⟩ (hf i hi))
    unfold edgeTo
    rw [h2, if_pos (by omega), Int.toNat_natCast]
  · rw [if_neg c]
    have h1 : hit rs t j k = false := by
      unfold hit
      by_cases e1 : a3 rs k = min t j
      · rw [decide_eq_false (fun e2 => c (hp.1 ⟨e1, e2⟩)), Bool.and_false]
      · rw [decide_eq_false e1, Bool.false_and]
    unfold edgeTo
    have : findTo rs t j (k + 1) = findTo rs t j k := by
      rw [findTo]
      by_cases e : 0 ≤ findTo rs t j k
      · rw [if_pos e]
      · rw [if_neg e, h1]
        rcases findTo_cases rs t j k with ⟨h2, _⟩ | ⟨i, _, h2, _⟩
        · rw [h2]; rfl
        · omega
    rw [this]
theorem roadsTo_c {n : Int} {m : Nat} (h : roadsTo n rs m = true) (j : Nat) (hj : j < m) : 1 ≤ c3 rs j := by
  rw [roadsTo_iff] at h
  have := h j hj
  rw [roadOne, Bool.and_eq_true] at this
  exact (roadIn_iff.1 this.1).2.2.2.1
end
end Go.Proofs.Ytdnjeahbnidefaa

/- Plain laws: a heap in a list, least key on top. No program is named here. -/
namespace Go.Proofs.Ytdnjeahbnidefaa

/-- two elements exchanged -/
def swp (xs : List (Int × Int)) (i j : Nat) : List (Int × Int) := (xs.set i (xs.getD j (0, 0))).set j (xs.getD i (0, 0))
/-- the k-th key -/
def ky (key : Int × Int → Int) (xs : List (Int × Int)) (k : Nat) : Int := key (xs.getD k (0, 0))
theorem swp_len (xs : List (Int × Int)) (i j : Nat) : (swp xs i j).length = xs.length := by simp [swp]
theorem getD_set {α : Type} {xs : List α} {i : Nat} {v d : α} (j : Nat) (hi : i < xs.length) : (xs.set i v).getD j d = if i = j then v else xs.getD j d := by
  by_cases h : i = j
  · subst h
    rw [if_pos rfl, List.getD_eq_getElem?_getD, List.getElem?_set_self hi]; rfl
  · rw [if_neg h, List.getD_eq_getElem?_getD, List.getElem?_set_ne h, ← List.getD_eq_getElem?_getD]
theorem swp_at {xs : List (Int × Int)} {i j : Nat} (hi : i < xs.length) (hj : j < xs.length) (c : Nat) : (swp xs i j).getD c (0, 0) = if j = c then xs.getD i (0, 0) else if i = c then xs.getD j (0, 0) else xs.getD c (0, 0) := by
  unfold swp
  rw [getD_set _ (by rw [List.length_set]; exact hj), getD_set _ hi]
theorem mem_iff_getD {xs : List (Int × Int)} {x : Int × Int} : x ∈ xs ↔ ∃ k, k < xs.length ∧ xs.getD k (0, 0) = x := by
  rw [List.mem_iff_getElem]
  constructor
  · rintro ⟨k, h, rfl⟩
    exact ⟨k, h, by simp [h]⟩
  · rintro ⟨k, h, rfl⟩
    exact ⟨k, h, by simp [h]⟩
theorem mem_swp {xs : List (Int × Int)} {i j : Nat} (hi : i < xs.length) (hj : j < xs.length) (x : Int × Int) : x ∈ swp xs i j ↔ x ∈ xs := by
  rw [mem_iff_getD, mem_iff_getD, swp_len]
  constructor
  · rintro ⟨k, hk, rfl⟩
    rw [swp_at hi hj]
    by_cases h1 : j = k
    · rw [if_pos h1]; exact ⟨i, hi, rfl⟩
    · rw [if_neg h1]
      by_cases h2 : i = k
      · rw [if_pos h2]; exact ⟨j, hj, rfl⟩
      · rw [if_neg h2]; exact ⟨k, hk, rfl⟩
  · rintro ⟨k, hk, rfl⟩
    by_cases h1 : k = j
    · subst h1
      by_cases h2 : k = i
      · subst h2
        exact ⟨k, hk, by rw [swp_at hi hj, if_pos rfl]⟩
      · exact ⟨i, hi, by rw [swp_at hi hj, if_neg (fun e => h2 e), if_pos rfl]⟩
    · by_cases h2 : k = i
      · subst h2
        exact ⟨j, hj, by rw [swp_at hi hj, if_pos rfl]⟩
      · exact ⟨k, hk, by rw [swp_at hi hj, if_neg (fun e => h1 e.symm), if_neg (fun e => h2 e.symm)]⟩
section
variable {key : Int × Int → Int} {xs : List (Int × Int)} {n : Nat}
theorem ky_swp {i j : Nat} (hi : i < xs.length) (hj : j < xs.length) (c : Nat) : ky key (swp xs i j) c = if j = c then ky key xs i else if i = c then ky key xs j else ky key xs c := by
  unfold ky
  rw [swp_at hi hj]
  split
  · rfl
  · split <;> rfl
/-- no key is less than the one above it -/
def HeapN (key : Int × Int → Int) (xs : List (Int × Int)) (n : Nat) : Prop := ∀ c, 0 < c → c < n → ky key xs ((c - 1) / 2) ≤ ky key xs c
/-- .. but for the one at j, which may rise -/
def HeapUp (key : Int × Int → Int) (xs : List (Int × Int)) (n j : Nat) : Prop :=
  (∀ c, 0 < c → c < n → c ≠ j → ky key xs ((c - 1) / 2) ≤ ky key xs c) ∧ ∀ c, 0 < c → c < n → (c - 1) / 2 = j → 0 < j → ky key xs ((j - 1) / 2) ≤ ky key xs c
/-- .. but for the one at i, which may sink -/
def HeapDn (key : Int × Int → Int) (xs : List (Int × Int)) (n i : Nat) : Prop :=
  (∀ c, 0 < c → c < n → (c - 1) / 2 ≠ i → ky key xs ((c - 1) / 2) ≤ ky key xs c) ∧ ∀ c, 0 < c → c < n → (c - 1) / 2 = i → 0 < i → ky key xs ((i - 1) / 2) ≤ ky key xs c
theorem HeapN.nil (key : Int × Int → Int) : HeapN key [] 0 := fun c _ h => by omega
theorem HeapN.one (key : Int × Int → Int) (xs : List (Int × Int)) : HeapN key xs 1 := fun c h0 h => by omega
theorem HeapN.snoc (h : HeapN key xs n) (hl : xs.length = n) (x : Int × Int) : HeapUp key (xs ++ [x]) (n + 1) n := by
  have e : ∀ k, k < n → ky key (xs ++ [x]) k = ky key xs k := fun k hk => by
    unfold ky; rw [List.getD_eq_getElem?_getD, List.getElem?_append_left (by omega), ← List.getD_eq_getElem?_getD]
  refine ⟨fun c h0 h1 h2 => ?_, fun c h0 h1 h2 h3 => by omega⟩
  rw [e c (by omega), e _ (by omega)]
  exact h c h0 (by omega)
theorem HeapUp.top (h : HeapUp key xs n 0) : HeapN key xs n := fun c h0 h1 => h.1 c h0 h1 (by omega)
theorem HeapUp.stop {j : Nat} (h : HeapUp key xs n j) (hj : ky key xs ((j - 1) / 2) ≤ ky key xs j) : HeapN key xs n := fun c h0 h1 => by
  by_cases e : c = j
  · subst e; exact hj
  · exact h.1 c h0 h1 e
theorem HeapUp.step {i j : Nat} (h : HeapUp key xs n j) (hl : xs.length = n) (h0 : 0 < j) (hjn : j < n) (hi : i = (j - 1) / 2) (hlt : ky key xs j < ky key xs i) : HeapUp key (swp xs i j) n i := by
  have hi' : i < xs.length := by omega
  have hj' : j < xs.length := by omega
  have K := fun c => ky_swp (key := key) hi' hj' c
  refine ⟨fun c c0 c1 c2 => ?_, fun c c0 c1 c2 c3 => ?_⟩
  · by_cases e1 : c = j
    · subst e1
      rw [← hi, K i, K c, if_neg (by omega), if_pos rfl, if_pos rfl]
      omega
    · have hc := h.1 c c0 c1 e1
      rw [K c, if_neg (fun e => e1 e.symm), if_neg (fun e => c2 e.symm)]
      by_cases e2 : (c - 1) / 2 = i
      · rw [e2] at hc ⊢
        rw [K i, if_neg (by omega), if_pos rfl]
        omega
      · by_cases e3 : (c - 1) / 2 = j
        · rw [e3, K j, if_pos rfl, hi]
          exact h.2 c c0 c1 e3 h0
        · rw [K, if_neg (fun e => e3 e.symm), if_neg (fun e => e2 e.symm)]
          exact hc
  · have hp := h.1 i c3 (by omega) (by omega)
    rw [K ((i - 1) / 2), if_neg (by omega), if_neg (by omega)]
    by_cases e1 : c = j
    · subst e1
      rw [K c, if_pos rfl]
      exact hp
    · have hc := h.1 c c0 c1 e1
      rw [c2] at hc
      rw [K c, if_neg (fun e => e1 e.symm), if_neg (by omega)]
      omega
theorem HeapN.dn (h : HeapN key xs (n + 1)) (hl : xs.length = n + 1) : HeapDn key (swp xs 0 n) n 0 := by
  have K := fun c => ky_swp (key := key) (xs := xs) (i := 0) (j := n) (by omega) (by omega) c
  refine ⟨fun c c0 c1 c2 => ?_, fun c c0 c1 c2 c3 => by omega⟩
  rw [K c, K, if_neg (by omega), if_neg (by omega), if_neg (by omega), if_neg (by omega)]
  exact h c c0 (by omega)
theorem HeapDn.leaf {i : Nat} (h : HeapDn key xs n i) (hi : n ≤ 2 * i + 1) : HeapN key xs n := fun c c0 c1 => h.1 c c0 c1 (by omega)
theorem HeapDn.stop {i : Nat} (h : HeapDn key xs n i) (hi : ∀ c, 0 < c → c < n → (c - 1) / 2 = i → ky key xs i ≤ ky key xs c) : HeapN key xs n := fun c c0 c1 => by
  by_cases e : (c - 1) / 2 = i
  · rw [e]; exact hi c c0 c1 e
  · exact h.1 c c0 c1 e
theorem HeapDn.step {i j : Nat} (h : HeapDn key xs n i) (hn : n ≤ xs.length) (h0 : 0 < j) (hjn : j < n) (hi : (j - 1) / 2 = i) (hlt : ky key xs j ≤ ky key xs i) (hm : ∀ c, 0 < c → c < n → (c - 1) / 2 = i → ky key xs j ≤ ky key xs c) : HeapDn key (swp xs i j) n j := by
  have hi' : i < xs.length := by omega
  have hj' : j < xs.length := by omega
  have K := fun c => ky_swp (key := key) hi' hj' c
  refine ⟨fun c c0 c1 c2 => ?_, fun c c0 c1 c2 c3 => ?_⟩
  · by_cases e2 : (c - 1) / 2 = i
    · rw [e2, K i, if_neg (by omega), if_pos rfl]
      by_cases e1 : c = j
      · rw [e1, K j, if_pos rfl]
        exact hlt
      · rw [K c, if_neg (fun e => e1 e.symm), if_neg (by omega)]
        exact hm c c0 c1 e2
    · rw [K ((c - 1) / 2), if_neg (fun e => c2 e.symm), if_neg (fun e => e2 e.symm)]
      by_cases e1 : c = i
      · rw [e1, K i, if_neg (by omega), if_pos rfl]
        exact h.2 j h0 hjn hi (by omega)
      · rw [K c, if_neg (by omega), if_neg (fun e => e1 e.symm)]
        exact h.1 c c0 c1 e2
  · rw [K ((j - 1) / 2), hi, if_neg (by omega), if_pos rfl, K c, if_neg (by omega), if_neg (by omega)]
    have := h.1 c c0 c1 (by omega)
    rw [c2] at this
    exact this
theorem HeapN.least (h : HeapN key xs n) : ∀ c, c < n → ky key xs 0 ≤ ky key xs c := by
  intro c
  induction c using Nat.strongRecOn with
  | ind c ih =>
    intro hc
    by_cases e : c = 0
    · subst e; exact Int.le_refl _
    · have h1 := h c (by omega) hc
      have h2 := ih ((c - 1) / 2) (by omega) (by omega)
      omega
theorem HeapN.least_mem (h : HeapN key xs n) (hl : xs.length = n) {x : Int × Int} (hx : x ∈ xs) : ky key xs 0 ≤ key x := by
  obtain ⟨k, hk, rfl⟩ := mem_iff_getD.1 hx
  exact h.least k (by omega)
/-- the first elements are a heap still -/
theorem HeapN.take {m : Nat} (h : HeapN key xs n) (hm : m ≤ n) : HeapN key (xs.take m) m := fun c c0 c1 => by
  have e : ∀ k, k < m → ky key (xs.take m) k = ky key xs k := fun k hk => by
    unfold ky; rw [List.getD_eq_getElem?_getD, List.getElem?_take_of_lt hk, ← List.getD_eq_getElem?_getD]
  rw [e c c1, e _ (by omega)]
  exact h c c0 (by omega)
theorem mem_take_last {x : Int × Int} (hl : xs.length = n + 1) : x ∈ xs ↔ x = xs.getD n (0, 0) ∨ x ∈ xs.take n := by
  have e : xs = xs.take n ++ [xs.getD n (0, 0)] := by
    have := take_snoc' (0, 0) xs n (by omega)
    rw [← this, List.take_of_length_le (by omega)]
  constructor
  · intro h
    rw [e] at h
    rcases List.mem_append.1 h with h | h
    · exact .inr h
    · exact .inl (List.mem_singleton.1 h)
  · rintro (rfl | h)
    · exact mem_iff_getD.2 ⟨n, by omega, rfl⟩
    · exact List.mem_of_mem_take h
end
end Go.Proofs.Ytdnjeahbnidefaa

/- Plain laws: the nearest town is taken next (Dijkstra). No program is named here. -/
namespace Go.Proofs.Ytdnjeahbnidefaa

section
variable {e : Nat → Nat → Int} {n s : Nat} {F : Nat → Int} {H : List (Int × Int)}
/-- a way from a reached town to one that is not leaves the reached ones somewhere -/
theorem Wk.cross {k x t : Nat} {L : Int} (h : Wk e n k x t L) (hx : 0 ≤ F x) (ht : F t < 0) : ∃ a u P, 0 ≤ F a ∧ F u < 0 ∧ 1 ≤ e a u ∧ u < n ∧ (∃ j, Wk e n j x a P) ∧ P + e a u ≤ L := by
  induction h with
  | nil h => omega
  | @cons a b c k L h1 h2 h3 ih =>
    by_cases hb : 0 ≤ F b
    · obtain ⟨p, u, P, g1, g2, g3, g4, ⟨j, g5⟩, g6⟩ := ih hb ht
      exact ⟨p, u, e a b + P, g1, g2, g3, g4, ⟨j + 1, .cons h1 h2 g5⟩, by omega⟩
    · exact ⟨a, b, 0, hx, by omega, h2, h3.lt_l, ⟨0, .nil h1⟩, by have := h3.ge; omega⟩
/-- reached towns have their distances; the heap knows ways, and what lies next to what is reached -/
structure DijN (e : Nat → Nat → Int) (n s : Nat) (F : Nat → Int) (H : List (Int × Int)) (skip : Nat → Nat → Prop) : Prop where
  fin : ∀ t, 0 ≤ F t → IsD e n s t (F t)
  heap : ∀ x, x ∈ H → ∃ t : Nat, x.1 = t ∧ t < n ∧ ∃ k, Wk e n k s t x.2
  edge : ∀ t u, 0 ≤ F t → F u < 0 → 1 ≤ e t u → u < n → ¬ skip t u → ∃ x, x ∈ H ∧ x.1 = u ∧ x.2 ≤ F t + e t u
  start : 0 ≤ F s ∨ ∃ x, x ∈ H ∧ x.1 = s ∧ x.2 ≤ 0
def Dij (e : Nat → Nat → Int) (n s : Nat) (F : Nat → Int) (H : List (Int × Int)) : Prop := DijN e n s F H (fun _ _ => False)
theorem Dij.first (hs : s < n) : Dij e n s (fun _ => -1) [((s : Int), 0)] where
  fin := fun t h => by omega
  heap := fun x hx => by
    cases List.mem_singleton.1 hx
    exact ⟨s, rfl, hs, 0, .nil hs⟩
  edge := fun t u h => by omega
  start := .inr ⟨_, List.mem_singleton.2 rfl, rfl, Int.le_refl _⟩
/-- a town that is reached already is passed by -/
theorem Dij.pass (h : Dij e n s F H) {H' : List (Int × Int)} {x : Int × Int} {t : Nat} (hm : ∀ y, y ∈ H ↔ y = x ∨ y ∈ H') (hx : x.1 = t) (ht : 0 ≤ F t) : Dij e n s F H' where
  fin := h.fin
  heap := fun y hy => h.heap y ((hm y).2 (.inr hy))
  edge := fun a u g1 g2 g3 g4 g5 => by
    obtain ⟨y, y1, y2, y3⟩ := h.edge a u g1 g2 g3 g4 g5
    rcases (hm y).1 y1 with rfl | y1
    · obtain rfl : t = u := by omega
      omega
    · exact ⟨y, y1, y2, y3⟩
  start := by
    rcases h.start with g | ⟨y, y1, y2, y3⟩
    · exact .inl g
    · rcases (hm y).1 y1 with rfl | y1
      · obtain rfl : t = s := by omega
        exact .inl ht
      · exact .inr ⟨y, y1, y2, y3⟩
/-- the least of the heap has its distance -/
theorem Dij.least (h : Dij e n s F H) {x : Int × Int} {t : Nat} (hm : x ∈ H) (hl : ∀ y, y ∈ H → x.2 ≤ y.2) (hx : x.1 = t) (ht : F t < 0) : IsD e n s t x.2 := by
  obtain ⟨t', e1, t1, k, w⟩ := h.heap x hm
  obtain rfl : t' = t := by omega
  refine ⟨⟨k, w⟩, fun j L g => ?_⟩
  rcases h.start with hs | ⟨y, y1, y2, y3⟩
  · obtain ⟨a, u, P, g1, g2, g3, g4, ⟨i, g5⟩, g6⟩ := g.cross hs ht
    obtain ⟨y, y1, y2, y3⟩ := h.edge a u g1 g2 g3 g4 (fun f => f)
    have := hl y y1
    have := (h.fin a g1).2 _ _ g5
    omega
  · have := hl y y1
    have := g.ge
    omega
def upd (F : Nat → Int) (t : Nat) (d : Int) : Nat → Int := fun i => if i = t then d else F i
theorem upd_same (F : Nat → Int) (t : Nat) (d : Int) : upd F t d t = d := if_pos rfl
theorem upd_ne (F : Nat → Int) (d : Int) {i t : Nat} (h : i ≠ t) : upd F t d i = F i := if_neg h
/-- .. and is taken; its neighbors are still to come -/
theorem Dij.take (h : Dij e n s F H) {H' : List (Int × Int)} {x : Int × Int} {t : Nat} (hm : ∀ y, y ∈ H ↔ y = x ∨ y ∈ H') (hl : ∀ y, y ∈ H → x.2 ≤ y.2) (hx : x.1 = t) (ht : F t < 0) : DijN e n s (upd F t x.2) H' (fun a _ => a = t) := by
  have hd := h.least ((hm x).2 (.inl rfl)) hl hx ht
  refine ⟨fun a ha => ?_, fun y hy => h.heap y ((hm y).2 (.inr hy)), fun a u g1 g2 g3 g4 g5 => ?_, ?_⟩
  · by_cases c : a = t
    · subst c; rw [upd_same]; exact hd
    · rw [upd_ne _ _ c] at ha ⊢; exact h.fin a ha
  · have hu : u ≠ t := fun e => by subst e; rw [upd_same] at g2; have := hd.ge; omega
    rw [upd_ne _ _ g5] at g1 ⊢
    rw [upd_ne _ _ hu] at g2
    obtain ⟨y, y1, y2, y3⟩ := h.edge a u g1 g2 g3 g4 (fun f => f)
    rcases (hm y).1 y1 with rfl | y1
    · exact absurd (show u = t by omega) hu
    · exact ⟨y, y1, y2, y3⟩
  · by_cases c : s = t
    · subst c; left; rw [upd_same]; exact hd.ge
    · rcases h.start with g | ⟨y, y1, y2, y3⟩
      · left; rw [upd_ne _ _ c]; exact g
      · right
        rcases (hm y).1 y1 with rfl | y1
        · exact absurd (show s = t by omega) c
        · exact ⟨y, y1, y2, y3⟩
/-- a neighbor that is reached wants nothing -/
theorem DijN.pass {S : Nat → Nat → Prop} (h : DijN e n s F H S) {v t : Nat} (hv : 0 ≤ F v) : DijN e n s F H (fun a u => S a u ∧ ¬ (a = t ∧ u = v)) :=
  ⟨h.fin, h.heap, fun a u g1 g2 g3 g4 g5 => h.edge a u g1 g2 g3 g4 (fun f => g5 ⟨f, fun ⟨_, e⟩ => by subst e; omega⟩), h.start⟩
/-- a neighbor is laid into the heap -/
theorem DijN.push {S : Nat → Nat → Prop} (h : DijN e n s F H S) {H' : List (Int × Int)} {v t : Nat} (ht : 0 ≤ F t) (he : 1 ≤ e t v) (hvn : v < n) (hm : ∀ y, y ∈ H' ↔ y = ((v : Int), F t + e t v) ∨ y ∈ H) : DijN e n s F H' (fun a u => S a u ∧ ¬ (a = t ∧ u = v)) := by
  refine ⟨h.fin, fun y hy => ?_, fun a u g1 g2 g3 g4 g5 => ?_, ?_⟩
  · rcases (hm y).1 hy with rfl | hy
    · obtain ⟨⟨k, w⟩, _⟩ := h.fin t ht
      exact ⟨v, rfl, hvn, k + 1, w.append (Wk.one w.lt_r hvn he)⟩
    · exact h.heap y hy
  · by_cases c : a = t ∧ u = v
    · obtain ⟨rfl, rfl⟩ := c
      exact ⟨_, (hm _).2 (.inl rfl), rfl, Int.le_refl _⟩
    · obtain ⟨y, y1, y2, y3⟩ := h.edge a u g1 g2 g3 g4 (fun f => g5 ⟨f, c⟩)
      exact ⟨y, (hm y).2 (.inr y1), y2, y3⟩
  · rcases h.start with g | ⟨y, y1, y2, y3⟩
    · exact .inl g
    · exact .inr ⟨y, (hm y).2 (.inr y1), y2, y3⟩
theorem DijN.mono {S T : Nat → Nat → Prop} (h : DijN e n s F H S) (hst : ∀ a u, 1 ≤ e a u → S a u → T a u) : DijN e n s F H T :=
  ⟨h.fin, h.heap, fun a u g1 g2 g3 g4 g5 => h.edge a u g1 g2 g3 g4 (fun f => g5 (hst a u g3 f)), h.start⟩
/-- when nothing is left in the heap all that can be reached is -/
theorem Dij.last (h : Dij e n s F []) {t : Nat} (ht : F t < 0) : NoWay e n s t := fun k L g => by
  rcases h.start with hs | ⟨y, y1, _⟩
  · obtain ⟨a, u, P, g1, g2, g3, g4, _, _⟩ := g.cross hs ht
    obtain ⟨y, y1, _⟩ := h.edge a u g1 g2 g3 g4 (fun f => f)
    cases y1
  · cases y1
end
end Go.Proofs.Ytdnjeahbnidefaa

/- Plain laws: the length of a way. No program is named here. -/
namespace Go.Proofs.Ytdnjeahbnidefaa

/-- the miles between two towns, -1 for none -/
def direct (n : Int) (rs : List (Int × Int × Int)) (a b : Int) : Int := if roadsValid n rs = true then edge rs a b else -1
/-- a way goes on at an index -/
def wayOne (n : Int) (rs : List (Int × Int × Int)) (ws : List Int) (i : Nat) : Bool := (decide (0 ≤ a1 ws i) && decide (a1 ws i ≤ n - 1)) && (decide (i = 0) || decide (0 ≤ edge rs (a1 ws (i - 1)) (a1 ws i)))
def wayTo (n : Int) (rs : List (Int × Int × Int)) (ws : List Int) : Nat → Bool
  | 0 => true
  | k + 1 => wayTo n rs ws k && wayOne n rs ws k
def waySum (rs : List (Int × Int × Int)) (ws : List Int) : Nat → Int
  | 0 => 0
  | k + 1 => waySum rs ws k + (if k = 0 then 0 else edge rs (a1 ws (k - 1)) (a1 ws k))
def wayOk (n : Int) (rs : List (Int × Int × Int)) (ws : List Int) : Bool := (roadsValid n rs && decide (1 ≤ ws.length)) && wayTo n rs ws ws.length
def wayLength (n : Int) (rs : List (Int × Int × Int)) (ws : List Int) : Int := if wayOk n rs ws = true then waySum rs ws ws.length else -1
theorem wayTo_no {n : Int} {rs : List (Int × Int × Int)} {ws : List Int} {k : Nat} (h : wayOne n rs ws k = false) : ∀ m, k < m → wayTo n rs ws m = false := by
  intro m
  induction m with
  | zero => intro h; omega
  | succ m ih =>
    intro hk
    rw [wayTo]
    by_cases e : k = m
    · subst e; rw [h, Bool.and_false]
    · rw [ih (by omega), Bool.false_and]
theorem wayTo_iff {n : Int} {rs : List (Int × Int × Int)} {ws : List Int} : ∀ m, wayTo n rs ws m = true ↔ ∀ j, j < m → wayOne n rs ws j = true := by
  intro m
  induction m with
  | zero => simp [wayTo]
  | succ m ih =>
    rw [wayTo, Bool.and_eq_true, ih]
    constructor
    · rintro ⟨h1, h2⟩ j hj
      by_cases e : j = m
      · subst e; exact h2
      · exact h1 j (by omega)
    · intro h
      exact ⟨fun j hj => h j (by omega), h m (by omega)⟩
theorem wayOne_first {n : Int} {rs : List (Int × Int × Int)} {ws : List Int} : wayOne n rs ws 0 = (decide (0 ≤ a1 ws 0) && decide (a1 ws 0 ≤ n - 1)) := by
  unfold wayOne; simp
theorem RV.wayOne_next {n : Nat} {rs : List (Int × Int × Int)} (h : RV n rs) {ws : List Int} {i : Nat} (hi : 0 < i) : wayOne n rs ws i = decide (0 ≤ edge rs (a1 ws (i - 1)) (a1 ws i)) := by
  unfold wayOne
  rw [decide_eq_false (show ¬ i = 0 by omega), Bool.false_or]
  by_cases c : 0 ≤ edge rs (a1 ws (i - 1)) (a1 ws i)
  · obtain ⟨_, _, _, _, g1, g2, _⟩ := h.edge_pos c
    rw [decide_eq_true c, decide_eq_true g1, decide_eq_true (by omega)]; rfl
  · rw [decide_eq_false c, Bool.and_false]
theorem RV.waySum_in {n : Nat} {rs : List (Int × Int × Int)} (h : RV n rs) {ws : List Int} : ∀ m, wayTo n rs ws m = true → 0 ≤ waySum rs ws m ∧ waySum rs ws m ≤ 99 * m := by
  intro m
  induction m with
  | zero => intro _; simp [waySum]
  | succ m ih =>
    intro hm
    rw [wayTo, Bool.and_eq_true] at hm
    have h1 := ih hm.1
    rw [waySum]
    by_cases e : m = 0
    · rw [if_pos e]; omega
    · rw [if_neg e]
      have h2 := hm.2
      rw [h.wayOne_next (by omega), decide_eq_true_eq] at h2
      have := h.edge_le (a1 ws (m - 1)) (a1 ws m)
      omega
end Go.Proofs.Ytdnjeahbnidefaa

/- The plain functions of parts: what both texts compute. -/
namespace Go.Proofs.Ytdnjeahbnidefaa
open Go.RowKit

def pOk (p : Int × Int) : Bool := decide (0 ≤ p.1) && decide (p.1 ≤ 5) && decide (1 ≤ p.2) && decide (p.2 ≤ 99)
def partsValid (ps : List (Int × Int)) : Bool := decide (1 ≤ ps.length) && decide (ps.length ≤ 12) && ps.all pOk
theorem pOk_true {ps : List (Int × Int)} {k : Nat} (h : pOk (ps.getD k (0, 0)) = true) : 0 ≤ a2 ps k ∧ a2 ps k ≤ 5 ∧ 1 ≤ b2 ps k ∧ b2 ps k ≤ 99 := by
  simp only [pOk, Bool.and_eq_true, decide_eq_true_eq] at h
  exact ⟨h.1.1.1, h.1.1.2, h.1.2, h.2⟩
theorem pOk_false {ps : List (Int × Int)} {k : Nat} (h : pOk (ps.getD k (0, 0)) = false) : a2 ps k < 0 ∨ 5 < a2 ps k ∨ b2 ps k < 1 ∨ 99 < b2 ps k := by
  simp only [pOk, Bool.and_eq_false_iff, decide_eq_false_iff_not] at h
  unfold a2 b2
  omega
theorem all_step {α : Type} (p : α → Bool) (xs : List α) (k : Nat) (d : α) (h : k < xs.length) : (xs.drop k).all p = (p (xs.getD k d) && (xs.drop (k + 1)).all p) := by
  rw [drop_at xs k d h, List.all_cons]
theorem partsValid_len {ps : List (Int × Int)} (h : partsValid ps = true) : 1 ≤ ps.length ∧ ps.length ≤ 12 := by
  simp only [partsValid, Bool.and_eq_true, decide_eq_true_eq] at h
  exact h.1
theorem partsValid_at {ps : List (Int × Int)} (h : partsValid ps = true) (k : Nat) (hk : k < ps.length) : 0 ≤ a2 ps k ∧ a2 ps k ≤ 5 ∧ 1 ≤ b2 ps k ∧ b2 ps k ≤ 99 := by
  simp only [partsValid, Bool.and_eq_true, List.all_eq_true] at h
  exact pOk_true (h.2 _ (by simp [hk]))

/-- the sum of all Miles -/
def sumB (ps : List (Int × Int)) : Int := ps.foldr (fun p s => p.2 + s) 0
def partsLength (ps : List (Int × Int)) : Int := if partsValid ps = true then sumB ps else -1
theorem sumB_step (ps : List (Int × Int)) (k : Nat) (h : k < ps.length) : sumB (ps.drop k) = b2 ps k + sumB (ps.drop (k + 1)) := by
  rw [drop_at ps k (0, 0) h]; rfl
/-- the miles of each proprietor -/
def milesStep (out : List Int) (p : Int × Int) : List Int := out.set p.1.toNat (out.getD p.1.toNat 0 + p.2)
def miles (ps : List (Int × Int)) : List Int := ps.foldl milesStep (List.replicate 6 0)
theorem milesStep_len (out : List Int) (p : Int × Int) : (milesStep out p).length = out.length := by simp [milesStep]
theorem miles_len (ps : List (Int × Int)) : (miles ps).length = 6 := by
  have : ∀ (qs : List (Int × Int)) (out : List Int), (qs.foldl milesStep out).length = out.length := by
    intro qs
    induction qs with
    | nil => intro out; rfl
    | cons q qs ih => intro out; rw [List.foldl_cons, ih, milesStep_len]
  exact this ps _
theorem miles_step (ps : List (Int × Int)) (out : List Int) (k : Nat) (h : k < ps.length) : (ps.drop k).foldl milesStep out = (ps.drop (k + 1)).foldl milesStep (milesStep out (a2 ps k, b2 ps k)) := by
  rw [drop_at ps k (0, 0) h, List.foldl_cons]; rfl
/-- the sum of a list -/
def sum1 (xs : List Int) : Int := xs.foldr (fun x s => x + s) 0
theorem sum1_step (xs : List Int) (k : Nat) (h : k < xs.length) : sum1 (xs.drop k) = a1 xs k + sum1 (xs.drop (k + 1)) := by
  rw [drop_at xs k 0 h]; rfl
theorem sum1_set (xs : List Int) : ∀ (k : Nat) (v : Int), k < xs.length → sum1 (xs.set k v) = sum1 xs - xs.getD k 0 + v := by
  induction xs with
  | nil => intro k v h; simp at h
  | cons x xs ih =>
    intro k v h
    cases k with
    | zero => simp [sum1]; omega
    | succ k =>
      have := ih k v (by simpa using h)
      simp only [List.set_cons_succ, List.getD_cons_succ, sum1, List.foldr_cons] at this ⊢

      omega
theorem sum1_fold (ps : List (Int × Int)) : ∀ (out : List Int), out.length = 6 → (∀ p ∈ ps, pOk p = true) → sum1 (ps.foldl milesStep out) = sum1 out + sumB ps := by
  induction ps with
  | nil => intro out _ _; simp [sumB]
  | cons p ps ih =>
    intro out hl hp
    have hp0 := hp p (by simp)
    simp only [pOk, Bool.and_eq_true, decide_eq_true_eq] at hp0
    rw [List.foldl_cons, ih _ (by rw [milesStep_len, hl]) (fun q hq => hp q (by simp [hq])), milesStep, sum1_set _ _ _ (by omega)]
    simp only [sumB, List.foldr_cons]
    omega
theorem sum1_miles {ps : List (Int × Int)} (h : partsValid ps = true) : sum1 (miles ps) = sumB ps := by
  simp only [partsValid, Bool.and_eq_true, List.all_eq_true] at h
  rw [miles, sum1_fold ps _ (by simp) h.2]
  show sum1 [0, 0, 0, 0, 0, 0] + _ = _
  simp [sum1]
/-- all numbers of a list lie in a range -/
def InR (lo hi : Int) (xs : List Int) : Prop := ∀ k, k < xs.length → lo ≤ a1 xs k ∧ a1 xs k ≤ hi
theorem InR.set {lo hi hi' : Int} {xs : List Int} (h : InR lo hi xs) (hh : hi ≤ hi') {k : Nat} {v : Int} (h1 : lo ≤ v) (h2 : v ≤ hi') : InR lo hi' (xs.set k v) := by
  intro j hj
  simp only [List.length_set] at hj
  have := h j hj
  unfold a1 at *
  by_cases hk : k = j
  · subst hk
    simp [hj]
    omega
  · simp [List.getElem?_set_ne hk] at *
    omega
theorem InR.zero (n : Nat) : InR 0 0 (List.replicate n 0) := by
  intro j hj
  unfold a1
  rw [List.getD_eq_getElem?_getD, List.getElem?_replicate]
  split <;> simp
theorem miles_in' (qs : List (Int × Int)) : ∀ (out : List Int) (M : Int), (∀ q ∈ qs, pOk q = true) → InR 0 M out → InR 0 (M + 99 * qs.length) (qs.foldl milesStep out) := by
  induction qs with
  | nil => intro out M _ h; simpa using h
  | cons q qs ih =>
    intro out M hq h
    have hp0 := hq q (by simp)
    simp only [pOk, Bool.and_eq_true, decide_eq_true_eq] at hp0
    rw [List.foldl_cons]
    have := ih (milesStep out q) (M + 99) (fun r hr => hq r (by simp [hr])) (by
      by_cases hl : q.1.toNat < out.length
      · have hk := h _ hl
        unfold a1 at hk
        exact InR.set h (by omega) (by omega) (by omega)
      · unfold milesStep
        rw [List.set_eq_of_length_le (by omega)]
        exact fun k hk => ⟨(h k hk).1, by have := (h k hk).2; omega⟩)
    intro k hk
    have h2 := this k hk
    refine ⟨h2.1, ?_⟩
    have h3 := h2.2
    simp only [List.length_cons]
    omega
theorem miles_in {ps : List (Int × Int)} (h : partsValid ps = true) : InR (-2000) 2000 (miles ps) := by
  have hl := partsValid_len h
  simp only [partsValid, Bool.and_eq_true, List.all_eq_true] at h
  have := miles_in' ps (List.replicate 6 0) 0 h.2 (InR.zero 6)
  intro k hk
  have h2 := this k hk
  have h3 := h2.1
  have h4 := h2.2
  unfold miles
  omega

/-- the owner of each mile -/
def owners (ps : List (Int × Int)) : List Int := ps.flatMap fun p => List.replicate p.2.toNat p.1
/-- how many miles the first k parts have -/
def upMiles (ps : List (Int × Int)) (k : Nat) : Nat := (owners (ps.take k)).length
theorem upMiles_succ (ps : List (Int × Int)) (k : Nat) (h : k < ps.length) : upMiles ps (k + 1) = upMiles ps k + (b2 ps k).toNat := by
  unfold upMiles owners
  rw [take_snoc' (0, 0) ps k h, List.flatMap_append, List.length_append]
  simp [b2]
theorem owners_at (ps : List (Int × Int)) (k j : Nat) (h : k < ps.length) (hj : j < (b2 ps k).toNat) : (owners ps).getD (upMiles ps k + j) 0 = a2 ps k := by
  have e : owners ps = owners (ps.take k) ++ (List.replicate (b2 ps k).toNat (a2 ps k) ++ owners (ps.drop (k + 1))) := by
    have hsplit : ps = ps.take k ++ (ps.getD k (0, 0) :: ps.drop (k + 1)) := by rw [← drop_at ps k (0, 0) h, List.take_append_drop]
    conv => lhs; rw [hsplit]
    simp only [owners, List.flatMap_append, List.flatMap_cons, a2, b2]
  rw [e, List.getD_eq_getElem?_getD, List.getElem?_append_right (by unfold upMiles; omega), List.getElem?_append_left (by simp [upMiles]; omega), List.getElem?_replicate, if_pos (by simp [upMiles]; omega)]
  rfl
theorem owners_len (ps : List (Int × Int)) : (owners ps).length = upMiles ps ps.length := by unfold upMiles; rw [List.take_length]
theorem upMiles_le {ps : List (Int × Int)} (hv : partsValid ps = true) : ∀ k, k ≤ ps.length → upMiles ps k ≤ 99 * k := by
  intro k
  induction k with
  | zero => intro _; simp [upMiles, owners]
  | succ k ih =>
    intro h
    rw [upMiles_succ ps k (by omega)]
    have := ih (by omega)
    have hb := partsValid_at hv k (by omega)
    omega
theorem upMiles_mono (ps : List (Int × Int)) (k : Nat) (_h : k ≤ ps.length) : upMiles ps k ≤ (owners ps).length := by
  have e : owners ps = owners (ps.take k) ++ owners (ps.drop k) := by
    conv => lhs; rw [← List.take_append_drop k ps]
    simp only [owners, List.flatMap_append]
  unfold upMiles
  rw [e, List.length_append]
  omega
theorem owners_le {ps : List (Int × Int)} (hv : partsValid ps = true) : (owners ps).length ≤ 1188 := by
  rw [owners_len]
  have := upMiles_le hv ps.length (Nat.le_refl _)
  have := (partsValid_len hv).2
  omega
/-- f 0, .., f (k - 1) -/
def upto {α : Type} (f : Nat → α) (k : Nat) : List α := (List.range k).map f
theorem upto_succ {α : Type} (f : Nat → α) (k : Nat) : upto f (k + 1) = upto f k ++ [f k] := by simp [upto, List.range_succ]
theorem upto_len {α : Type} (f : Nat → α) (k : Nat) : (upto f k).length = k := by simp [upto]
/-- the miles, each with its owner -/
def mileAt (ps : List (Int × Int)) (j : Nat) : Nat × Int := (j, (owners ps).getD j 0)
theorem sumB_owners' : ∀ (ps : List (Int × Int)), (∀ p ∈ ps, pOk p = true) → sumB ps = (owners ps).length := by
  intro ps
  induction ps with
  | nil => intro _; rfl
  | cons p ps ih =>
    intro h
    have hp := h p (by simp)
    simp only [pOk, Bool.and_eq_true, decide_eq_true_eq] at hp
    have := ih (fun q hq => h q (by simp [hq]))
    simp only [sumB, List.foldr_cons, owners, List.flatMap_cons, List.length_append, List.length_replicate] at *
    omega
theorem sumB_owners {ps : List (Int × Int)} (h : partsValid ps = true) : sumB ps = (owners ps).length := by
  simp only [partsValid, Bool.and_eq_true, List.all_eq_true] at h
  exact sumB_owners' ps h.2
theorem owners_snoc (ps : List (Int × Int)) (k : Nat) (h : k < ps.length) : owners (ps.take (k + 1)) = owners (ps.take k) ++ List.replicate (b2 ps k).toNat (a2 ps k) := by
  unfold owners
  rw [take_snoc' (0, 0) ps k h, List.flatMap_append]
  simp [a2, b2]
theorem fl1_snoc (xs : List Int) (x : Int) : fl1 (xs ++ [x]) = fl1 xs ++ [.int .i64 x] := by rw [fl1, List.flatMap_append]; rfl
theorem rep_snoc (a : Int) (q : Nat) : List.replicate (q + 1) a = List.replicate q a ++ [a] := List.replicate_succ'
theorem owners_val {ps : List (Int × Int)} (hv : partsValid ps = true) : ∀ o ∈ owners ps, 0 ≤ o ∧ o ≤ 5 := by
  intro o ho
  simp only [owners, List.mem_flatMap] at ho
  obtain ⟨p, hp, hpo⟩ := ho
  obtain rfl : o = p.1 := List.eq_of_mem_replicate hpo
  simp only [partsValid, Bool.and_eq_true, List.all_eq_true] at hv
  have h := hv.2 p hp
  simp only [pOk, Bool.and_eq_true, decide_eq_true_eq] at h
  omega
/-- miles of one owner become one part -/
def plainStep (out : List (Int × Int)) (o : Int) : List (Int × Int) :=
  if 0 < out.length ∧ a2 out (out.length - 1) = o then out.set (out.length - 1) (a2 out (out.length - 1), b2 out (out.length - 1) + 1) else out ++ [(o, 1)]
def plain (os : List Int) : List (Int × Int) := os.foldl plainStep []
theorem plain_step (os : List Int) (out : List (Int × Int)) (k : Nat) (h : k < os.length) : (os.drop k).foldl plainStep out = (os.drop (k + 1)).foldl plainStep (plainStep out (a1 os k)) := by
  rw [drop_at os k 0 h, List.foldl_cons]; rfl
theorem plain_snoc (os : List Int) (o : Int) : plain (os ++ [o]) = plainStep (plain os) o := by simp [plain]
/-- the miles of a plain road and its length grow by one at the most -/
def PlIn (k : Int) (out : List (Int × Int)) : Prop := out.length ≤ k ∧ ∀ j, j < out.length → 0 ≤ b2 out j ∧ b2 out j ≤ k
theorem PlIn.step {k : Int} {out : List (Int × Int)} (h : PlIn k out) (hk : 0 ≤ k) (o : Int) : PlIn (k + 1) (plainStep out o) := by
  unfold plainStep
  split
  · rename_i hc
    refine ⟨by rw [List.length_set]; have := h.1; omega, fun j hj => ?_⟩
    rw [List.length_set] at hj
    have h1 := h.2 j hj
    have h2 := h.2 (out.length - 1) (by omega)
    unfold b2 at *
    by_cases e : out.length - 1 = j
    · rw [List.getD_eq_getElem?_getD, e, List.getElem?_set_self hj]
      rw [e] at h2
      simp only [Option.getD_some]
      omega
    · rw [List.getD_eq_getElem?_getD, List.getElem?_set_ne e, ← List.getD_eq_getElem?_getD]
      omega
  · refine ⟨by simp; have := h.1; omega, fun j hj => ?_⟩
    simp only [List.length_append, List.length_cons, List.length_nil] at hj
    unfold b2
    by_cases e : j < out.length
    · rw [List.getD_eq_getElem?_getD, List.getElem?_append_left e, ← List.getD_eq_getElem?_getD]
      have h1 := h.2 j e
      unfold b2 at h1
      omega
    · rw [List.getD_eq_getElem?_getD, List.getElem?_append_right (by omega), show j - out.length = 0 by omega]
      simp
      omega
theorem PlIn.plain (os : List Int) : PlIn os.length (plain os) := by
  have : ∀ (os : List Int) (out : List (Int × Int)) (k : Nat), PlIn k out → PlIn ((k + os.length : Nat) : Int) (os.foldl plainStep out) := by
    intro os
    induction os with
    | nil => intro out k h; simpa using h
    | cons o os ih =>
      intro out k h
      have := ih (plainStep out o) (k + 1) (by have := h.step (by omega) o; simpa using this)
      rw [List.foldl_cons, List.length_cons, show k + (os.length + 1) = k + 1 + os.length by omega]
      exact this
  have h := this os [] 0 ⟨by simp, fun j hj => by simp at hj⟩
  rw [Nat.zero_add] at h
  exact h
theorem row2_storeb {w : World} {base t g cap n : Nat} {xs : List (Int × Int)} (h : w.ownsRow base t 2 (.slice (some ⟨g, 0, none⟩) n cap) n (fl2 xs)) {k : Nat} (hk : k < xs.length) (b : Int) :
    (w.setCell ⟨g, k * 2 + 1, none⟩ (.int .i64 b)).ownsRow base t 2 (.slice (some ⟨g, 0, none⟩) n cap) n (fl2 (xs.set k (a2 xs k, b))) := by
  have h1 := (h.stored (k * 2 + 1) (.int .i64 b)).1
  have e1 : (fl2 xs).set (k * 2 + 1) (.int .i64 b) = fl2 (xs.set k (a2 xs k, b)) :=
    flat_set enc2 2 enc2_len xs k 1 _ _ _ (getD_some xs k (0, 0) hk) (by omega) rfl
  rw [e1] at h1
  exact h1
theorem fl2_snoc (xs : List (Int × Int)) (x : Int × Int) : fl2 (xs ++ [x]) = fl2 xs ++ [.int .i64 x.1, .int .i64 x.2] := by rw [fl2, List.flatMap_append]; rfl
theorem plainStep_new (out : List (Int × Int)) (o : Int) (h : out.length = 0 ∨ a2 out (out.length - 1) ≠ o) : plainStep out o = out ++ [(o, 1)] := by
  unfold plainStep
  rw [if_neg]
  rintro ⟨h1, h2⟩
  rcases h with h | h
  · omega
  · exact h h2
theorem plainStep_same (out : List (Int × Int)) (o : Int) (L : Nat) (hL : out.length = L + 1) (h : a2 out L = o) : plainStep out o = out.set L (a2 out L, b2 out L + 1) := by
  unfold plainStep
  rw [hL, Nat.add_sub_cancel, if_pos ⟨by omega, h⟩]
end Go.Proofs.Ytdnjeahbnidefaa

/- Walks: the reference's test of a range. -/
namespace Go.Proofs.Ytdnjeahbnidefaa
open Go.RowKit

theorem l6In_any (n lo hi : Int) (w : World) (r : Bool) (hr : (decide (lo ≤ n) && decide (n ≤ hi)) = r) :
    Calls Try.prog 58 #[.int .i64 n, .int .i64 lo, .int .i64 hi] w fun e w' => e = .returned (.bool r) ∧ w = w' := by
  subst hr
  go_enter Try.func58, Try.ntmps58
  go_wp2
  all_goals go_ret
  all_goals exact ⟨ret_bool (by simp; try omega), rfl⟩
theorem l6In_t (n lo hi : Int) (w : World) (h1 : lo ≤ n) (h2 : n ≤ hi) :
    Calls Try.prog 58 #[.int .i64 n, .int .i64 lo, .int .i64 hi] w fun e w' => e = .returned (.bool true) ∧ w = w' :=
  l6In_any n lo hi w true (by simp [h1, h2])
theorem l6In_f (n lo hi : Int) (w : World) (h : n < lo ∨ hi < n) :
    Calls Try.prog 58 #[.int .i64 n, .int .i64 lo, .int .i64 hi] w fun e w' => e = .returned (.bool false) ∧ w = w' :=
  l6In_any n lo hi w false (by simp; omega)
/-- the same, for a region that draws its order -/
theorem l6In_qt (n lo hi : Int) (w : World) (h1 : lo ≤ n) (h2 : n ≤ hi) : Calls Try.prog 58 #[.int .i64 n, .int .i64 lo, .int .i64 hi] w fun e w' => e = .returned (.bool true) ∧ w' = w :=
  (l6In_t n lo hi w h1 h2).mono fun _ _ ⟨a, b⟩ => ⟨a, b.symm⟩
theorem l6In_qf (n lo hi : Int) (w : World) (h : n < lo ∨ hi < n) : Calls Try.prog 58 #[.int .i64 n, .int .i64 lo, .int .i64 hi] w fun e w' => e = .returned (.bool false) ∧ w' = w :=
  (l6In_f n lo hi w h).mono fun _ _ ⟨a, b⟩ => ⟨a, b.symm⟩
end Go.Proofs.Ytdnjeahbnidefaa

/- append as one step of a region that draws its order, whatever is appended, nothing too. No program is named here. -/
namespace Go.Proofs.Ytdnjeahbnidefaa
open Go.RowKit

theorem step_append_all {P : Program} {w : World} {ops : Array Oper} {o : Oper} {a : Act} {K : Act → World → Prop} {Q : Exit → Act → World → Prop} {E : Prop} (hgd : o.guard = none) (s x : Operand) (t : TypeId)
    (ho : o.op = .call { callee := .builtin .append, args := #[s, x], argTypes := #[t, t] })
    (base : Nat) (e : TypeId) (i : TypeInfo) (z : Value) (size bytes : Nat) (ht : P.underlying t = some (.slice e)) (hi : P.info? e = some i) (hz : i.zero = some z)
    (hsize : i.size = size) (hby : i.bytes = bytes) (hzs : z.cells.size = size) (hsz : 0 < size)
    (v : Value) (n : Nat) (xs : List Value) (hs : a.eval s = v) (hown : w.ownsRow base e size v n xs)
    (ad : Addr) (m c : Nat) (news : List Value) (hx : a.eval x = .slice (some ad) m c) (hl : news.length = m * size) (hnews : ∀ j u, news[j]? = some u → w.cell? (ad.add j) = some u) (h1 : ∀ u ∈ news, u.oneCell' = true)
    (h63 : n + m ≤ maxLen) (hbytes : (n + m) * bytes ≤ 140737488355328) (hbase : base ≤ w.heap.size) (N : Nat) (hN : n + m = N)
    (h : ∀ A cap w', w'.ownsRow base e size (.slice A N cap) N (xs ++ news) → w.grownBy w' v.ownBlock → K (a.put o.dst (.slice A N cap)) w') :
    if Region.wanted o (yielded ops a.tmps) = true then Oper.wp P o a w K Q else E := by
  subst hN
  have hw : Region.wanted o (yielded ops a.tmps) = true := by simp [Region.wanted, hgd]
  rw [if_pos hw]
  obtain ⟨v', w', hr, h2, h3, _, _⟩ := run_append_own_at (P := P) w base t o.type e i z size bytes ht hi hz hsize hby hzs hsz v n xs hown ad m c news hl hnews h1 h63 hbytes hbase
  obtain ⟨A, cap, rfl⟩ := own_form h2
  unfold Oper.wp execOp
  simp only [ho, resolve, invoke, builtin, Sem.run_bind, Sem.run_pure, Result.andThen_ok, List.map_toArray, List.map_cons, List.map_nil, hs, hx, hr]
  exact h A cap w' h2 h3
theorem own_cap {w : World} {base t size n cap : Nat} {A : Option Addr} {xs : List Value} (h : w.ownsRow base t size (.slice A n cap) n xs) : n ≤ cap := by
  rcases h.2 with ⟨_, hz⟩ | ⟨g, c, cur, hv, hb, hh, h1, _⟩
  · omega
  · simp only [Value.slice.injEq] at hv
    omega
theorem own_emptyH (w : World) (t size H : Nat) (h : w.heap.size = H) : (w.alloc (.cells #[] t)).ownsRow H t size (.slice (some ⟨H, 0, none⟩) 0 0) 0 [] := by
  subst h; exact own_empty w t size
theorem heap_newH (w : World) (o : Obj) (H : Nat) (h : w.heap.size = H) : (w.alloc o).heap[H]? = some o := by subst h; exact heap_alloc_new w o
theorem news_at {w : World} {B : Nat} {cs : Array Value} {t : TypeId} (hb : w.heap[B]? = some (.cells cs t)) : ∀ j u, cs.toList[j]? = some u → w.cell? ((⟨B, 0, none⟩ : Addr).add j) = some u := World.news_of_block hb
theorem Below.size_le {B : Nat} {w w' : World} (h : Below w.heap.size w w') (hB : B ≤ w.heap.size) : B ≤ w'.heap.size := Nat.le_trans hB h.size
theorem below_from {w w1 w2 : World} (h : Below w.heap.size w w1) (h2 : Below w1.heap.size w1 w2) : Below w.heap.size w w2 := h.trans (h2.mono h.size)
theorem keep3 {w : World} {a b c : Addr} {u v x : Value} (h0 : w.cell? a = some u) (h1 : w.cell? b = some v) (h2 : w.cell? c = some x) : ∀ w', Below w.heap.size w w' → w'.cell? a = some u ∧ w'.cell? b = some v ∧ w'.cell? c = some x ∧ Below w.heap.size w w' := fun _ h =>
  ⟨(h.cell (World.block_lt_of_cell? w _ h0)).trans h0, (h.cell (World.block_lt_of_cell? w _ h1)).trans h1, (h.cell (World.block_lt_of_cell? w _ h2)).trans h2, h⟩
theorem below_own {B base t size n : Nat} {a w w' : World} {v : Value} {xs : List Value} (h : Below B a w) (ho : w.ownsRow base t size v n xs) (hg : w.grownBy w' v.ownBlock) (hB : B ≤ base) (hz : B ≤ w.heap.size) : Below B a w' :=
  h.grown hg hz (fun k hk => Nat.le_trans hB (ho.lt k hk).1)
theorem book_cells (w : World) (u v x : Value) (t : TypeId) : ∀ w', Below (w.alloc (.cells #[u, v, x] t)).heap.size (w.alloc (.cells #[u, v, x] t)) w' →
    w'.cell? ⟨w.heap.size, 0, none⟩ = some u ∧ w'.cell? ⟨w.heap.size, 1, none⟩ = some v ∧ w'.cell? ⟨w.heap.size, 2, none⟩ = some x ∧ Below (w.alloc (.cells #[u, v, x] t)).heap.size (w.alloc (.cells #[u, v, x] t)) w' := fun w' h =>
  ⟨(h.cell (p := ⟨w.heap.size, 0, none⟩) (by simp)).trans (by simp), (h.cell (p := ⟨w.heap.size, 1, none⟩) (by simp)).trans (by simp), (h.cell (p := ⟨w.heap.size, 2, none⟩) (by simp)).trans (by simp), h⟩
end Go.Proofs.Ytdnjeahbnidefaa

/- The record Road: its cells in a row. Printed by gen_rec.py. -/
namespace Go.Proofs.Ytdnjeahbnidefaa
open Go.RowKit

theorem row3_a {w : World} {base t g cap n : Nat} {xs : List (Int × Int × Int)} (h : w.ownsRow base t 3 (.slice (some ⟨g, 0, none⟩) n cap) n (fl3 xs)) {k : Nat} (hk : k < xs.length) :
    w.cell? ⟨g, k * 3, none⟩ = some (.int .i64 (a3 xs k)) ∧ w.cell? ⟨g, k * 3 + 1, none⟩ = some (.int .i64 (b3 xs k)) ∧ w.cell? ⟨g, k * 3 + 2, none⟩ = some (.int .i64 (c3 xs k)) := by
  have hl := h.1
  rw [fl3_len] at hl
  exact ⟨(h.cellAt (k * 3) (by omega)).trans (fl3_a xs k hk), (h.cellAt (k * 3 + 1) (by omega)).trans (fl3_b xs k hk), (h.cellAt (k * 3 + 2) (by omega)).trans (fl3_c xs k hk)⟩
theorem row3_store {w : World} {base t g cap n : Nat} {xs : List (Int × Int × Int)} (h : w.ownsRow base t 3 (.slice (some ⟨g, 0, none⟩) n cap) n (fl3 xs)) {k : Nat} (hk : k < xs.length) (a b : Int) (c : Int) :
    (((w.setCell ⟨g, k * 3, none⟩ (.int .i64 a)).setCell ⟨g, k * 3 + 1, none⟩ (.int .i64 b)).setCell ⟨g, k * 3 + 2, none⟩ (.int .i64 c)).ownsRow base t 3 (.slice (some ⟨g, 0, none⟩) n cap) n (fl3 (xs.set k (a, b, c))) := by
  have h1 := (h.stored (k * 3) (.int .i64 a)).1
  have h2 := (h1.stored (k * 3 + 1) (.int .i64 b)).1
  have h3 := (h2.stored (k * 3 + 2) (.int .i64 c)).1
  have e1 : (fl3 xs).set (k * 3) (.int .i64 a) = fl3 (xs.set k (a, b3 xs k, c3 xs k)) :=
    flat_set enc3 3 enc3_len xs k 0 _ _ _ (getD_some xs k (0, 0, 0) hk) (by omega) rfl
  rw [e1] at h3
  have e2 : (fl3 (xs.set k (a, b3 xs k, c3 xs k))).set (k * 3 + 1) (.int .i64 b) = fl3 ((xs.set k (a, b3 xs k, c3 xs k)).set k (a, b, c3 xs k)) :=
    flat_set enc3 3 enc3_len _ k 1 (a, b3 xs k, c3 xs k) _ _ (by rw [List.getElem?_set_self hk]) (by omega) rfl
  rw [e2, List.set_set] at h3
  have e3 : (fl3 (xs.set k (a, b, c3 xs k))).set (k * 3 + 2) (.int .i64 c) = fl3 ((xs.set k (a, b, c3 xs k)).set k (a, b, c)) :=
    flat_set enc3 3 enc3_len _ k 2 (a, b, c3 xs k) _ _ (by rw [List.getElem?_set_self hk]) (by omega) rfl
  rw [e3, List.set_set] at h3
  exact h3
theorem info_Road : (Try.prog.info? 32).map (fun i => (i.zero, i.size, i.bytes)) = some (some (.agg #[.int .i64 0, .int .i64 0, .int .i64 0]), 3, 24) := by kernel_rfl
end Go.Proofs.Ytdnjeahbnidefaa

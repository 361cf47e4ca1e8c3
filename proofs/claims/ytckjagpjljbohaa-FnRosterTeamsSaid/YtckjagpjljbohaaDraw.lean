/- Walks: the reader of a code: l6Open, pick. What it gives is any number in its range. -/
import Derived.Test.YtckjagpjljbohaaL6
import Derived.BigRegion
import Derived.BigQuiet
namespace Go.Proofs.Ytckjagpjljbohaa
open Go.RowKit

def encU (p : Int) : List Value := [.int .u8 p]
theorem encU_len (a : Int) : (encU a).length = 1 := rfl
def flU (xs : List Int) : List Value := xs.flatMap encU
theorem flU_len (xs : List Int) : (flU xs).length = xs.length := by rw [flU, flat_length encU 1 encU_len xs, Nat.mul_one]
theorem flU_a (xs : List Int) (k : Nat) (hk : k < xs.length) : (flU xs)[k]? = some (.int .u8 (a1 xs k)) := by
  have := flat_get encU 1 encU_len xs k 0 _ (getD_some xs k 0 hk) (by omega); rw [Nat.mul_one, Nat.add_zero] at this; exact this
/-- all are bytes -/
def Bytes (xs : List Int) : Prop := ∀ k, k < xs.length → 0 ≤ a1 xs k ∧ a1 xs k ≤ 255
theorem Rd.atU {w : World} {A : Option Addr} {xs : List Int} (h : Rd w A (flU xs)) {k : Nat} (hk : k < xs.length) :
    ∃ b off, A = some ⟨b, off, none⟩ ∧ b < w.heap.size ∧ ∀ k, k < xs.length → w.cell? ⟨b, off + k, none⟩ = some (.int .u8 (a1 xs k)) := by
  obtain ⟨b, off, rfl, hlt, hc⟩ := h (by intro e; have := congrArg List.length e; rw [flU_len] at this; simp at this; subst this; simp at hk)
  exact ⟨b, off, rfl, hlt, fun k hk => hc k _ (flU_a xs k hk)⟩

/-- a reader lies in block g; so many numbers were drawn at most -/
def Rdr (W : World) (g K : Nat) : Prop :=
  ∃ (A : Option Addr) (n c : Nat) (p : Nat) (xs : List Int), W.heap[g]? = some (.cells #[.slice A n c, .int .i64 p] 47) ∧ p ≤ K ∧ n ≤ 2000 ∧ xs.length = n ∧ Bytes xs ∧ Rd W A (flU xs) ∧ (0 < n → ∀ a, A = some a → a.block < g)

theorem flU_take (xs : List Int) (k : Nat) : ∀ (i : Nat) (u : Value), (flU (xs.take k))[i]? = some u → (flU xs)[i]? = some u := by
  intro i u h
  have hi : i < (flU (xs.take k)).length := (List.getElem?_eq_some_iff.1 h).1
  rw [flU_len, List.length_take] at hi
  rw [flU_a _ i (by rw [List.length_take]; omega)] at h
  rw [flU_a _ i (by omega), ← h]
  unfold a1
  rw [List.getD_eq_getElem?_getD, List.getD_eq_getElem?_getD, List.getElem?_take_of_lt (by omega)]
theorem Rd.takeU {w : World} {A : Option Addr} {xs : List Int} (h : Rd w A (flU xs)) (k : Nat) : Rd w A (flU (xs.take k)) := fun hn => by
  obtain ⟨b, off, rfl, hlt, hc⟩ := h (fun e => hn (by
    have e1 := congrArg List.length e
    rw [flU_len] at e1
    have : xs = [] := List.eq_nil_of_length_eq_zero (by simpa using e1)
    subst this
    simp [flU]))
  exact ⟨b, off, rfl, hlt, fun i u hu => hc i u (flU_take xs k i u hu)⟩
theorem Rd.addrU {w : World} {A : Option Addr} {xs : List Int} (h : Rd w A (flU xs)) (hn : 0 < xs.length) : ∀ a, A = some a → a.block < w.heap.size := fun a ha => by
  obtain ⟨b, off, e, hlt, _⟩ := h.atU hn
  rw [e] at ha
  cases ha
  exact hlt
theorem Bytes.take {xs : List Int} (h : Bytes xs) (k : Nat) : Bytes (xs.take k) := fun i hi => by
  rw [List.length_take] at hi
  have := h i (by omega)
  unfold a1 at *
  rw [List.getD_eq_getElem?_getD, List.getElem?_take_of_lt (by omega), ← List.getD_eq_getElem?_getD]
  exact this
theorem Rdr.new {w : World} {A : Option Addr} {xs : List Int} {n : Nat} (c : Nat) (hl : xs.length = n) (hn : n ≤ 2000) (hx : Bytes xs) (hr : Rd w A (flU xs)) (t : TypeId) (ht : t = 47) :
    Rdr (w.alloc (.cells #[.slice A n c, .int .i64 0] t)) w.heap.size 0 := by
  subst ht
  exact ⟨A, n, c, 0, xs, heap_alloc_new _ _, Nat.le_refl _, hn, hl, hx, hr.alloc _, fun h0 a ha => hr.addrU (by omega) a ha⟩

theorem l6Open_any (A : Option Addr) (xs : List Int) (n c : Nat) (w : World) (hl : xs.length = n) (hn : n ≤ 1048576) (hc : n ≤ c) (hx : Bytes xs) (hr : Rd w A (flU xs)) :
    Calls Try.prog 10 #[.slice A n c] w fun e w' => ∃ g, e = .returned (.pointer (some ⟨g, 0, none⟩)) ∧ w.heap.size ≤ g ∧ Rdr w' g 0 ∧ Below w.heap.size w w' := by
  by_cases h : n ≤ 2000
  · go_enter Try.func10, Try.ntmps10
    go_wp2
    go_ret
    exact ⟨_, rfl, Nat.le_refl _, Rdr.new c hl h hx hr _ rfl, (Below.refl _ _).alloc (Nat.le_refl _) _⟩
  · have h2 : 2000 ≤ c := by omega
    have h3 : 2000 < n := by omega
    go_enter Try.func10, Try.ntmps10
    go_wp2
    go_ret
    exact ⟨_, rfl, Nat.le_refl _, Rdr.new c (by rw [List.length_take]; omega) (Nat.le_refl _) (hx.take 2000) (hr.takeU 2000) _ rfl, (Below.refl _ _).alloc (Nat.le_refl _) _⟩
theorem grown_set (w : World) (b i : Nat) (v : Value) : w.grownBy (w.setCell ⟨b, i, none⟩ v) (some b) :=
  ⟨rfl, rfl, rfl, by simp, fun k _ hne => Below.heap_setCell w _ v k (fun e => hne (by rw [e]))⟩
theorem cell_other {w : World} {p q : Addr} (v : Value) (h : q.block ≠ p.block) : (w.setCell p v).cell? q = w.cell? q := World.cell?_of_block (Below.heap_setCell w p v q.block h)
theorem Rdr.next {w w1 : World} {g K m c p : Nat} {A : Option Addr} {xs : List Int} (hp : p ≤ K) (hm : m ≤ 2000) (hl : xs.length = m) (hx : Bytes xs) (hrd : Rd w A (flU xs)) (hlt : 0 < m → ∀ a, A = some a → a.block < g)
    (hw : w1.heap[g]? = some (.cells #[.slice A m c, .int .i64 (p + 1)] 47)) (hk : w.grownBy w1 (some g)) : Rdr w1 g (K + 1) :=
  ⟨A, m, c, p + 1, xs, by rw [hw]; rfl, by omega, hm, hl, hx, fun hn => by
    have h0 : 0 < xs.length := by
      cases xs with
      | nil => simp [flU] at hn
      | cons x xs => simp
    obtain ⟨b, off, e, hb, hc⟩ := hrd hn
    refine ⟨b, off, e, Nat.lt_of_lt_of_le hb hk.size, fun i u hu => hk.cell (hc i u hu) (fun h => ?_)⟩
    have := hlt (by omega) _ e
    have e1 : b = g := Option.some.inj h
    simp at this
    omega, hlt⟩
theorem bits_xor_i64 (a b : Nat) (ha : a < 9223372036854775808) (hb : b < 9223372036854775808) : bits .xor .i64 (a : Int) (b : Int) = ((a ^^^ b : Nat) : Int) := by
  have hx : a ^^^ b < 2 ^ 63 := Nat.xor_lt_two_pow (by omega) (by omega)
  have h1 : (BitVec.ofInt 64 (a : Int)).toNat = a := by
    rw [BitVec.ofInt_natCast, BitVec.toNat_ofNat]; exact Nat.mod_eq_of_lt (by omega)
  have h2 : (BitVec.ofInt 64 (b : Int)).toNat = b := by
    rw [BitVec.ofInt_natCast, BitVec.toNat_ofNat]; exact Nat.mod_eq_of_lt (by omega)
  show IntKind.i64.wrap ((BitVec.ofInt 64 (a : Int) ^^^ BitVec.ofInt 64 (b : Int)).toNat : Int) = _
  rw [BitVec.toNat_xor, h1, h2]
  simp [IntKind.wrap, IntKind.bits, IntKind.signed]
  omega
theorem mix_in (X n : Int) (h0 : 0 ≤ X) (h1 : X < 9223372036854775808) (hn : 1 ≤ n) : 0 ≤ (bits .xor .i64 X (X / 64)).tmod n ∧ (bits .xor .i64 X (X / 64)).tmod n < n := by
  obtain ⟨x, rfl⟩ := Int.eq_ofNat_of_zero_le h0
  have e : ((x : Int) / 64) = ((x / 64 : Nat) : Int) := by omega
  rw [e, bits_xor_i64 x (x / 64) (by omega) (by omega), Int.tmod_eq_emod_of_nonneg (by omega)]
  exact ⟨Int.emod_nonneg _ (by omega), Int.emod_lt_of_pos _ (by omega)⟩
theorem Rdr.alloc {w : World} {g K : Nat} (h : Rdr w g K) (o : Obj) : Rdr (w.alloc o) g K := by
  obtain ⟨A, n, c, p, xs, h1, h2, h3, h4, h5, h6, h7⟩ := h
  exact ⟨A, n, c, p, xs, (Below.heap_alloc w o g (Array.getElem?_eq_some_iff.1 h1).1).trans h1, h2, h3, h4, h5, h6.alloc o, h7⟩
theorem Rdr.lt {w : World} {g K : Nat} (h : Rdr w g K) : g < w.heap.size := by
  obtain ⟨A, n, c, p, xs, h1, _⟩ := h
  exact (Array.getElem?_eq_some_iff.1 h1).1
theorem Rdr.mono {w : World} {g K K' : Nat} (h : Rdr w g K) (hk : K ≤ K') : Rdr w g K' := by
  obtain ⟨A, n, c, p, xs, h1, h2, h3, h4, h5, h6, h7⟩ := h
  exact ⟨A, n, c, p, xs, h1, by omega, h3, h4, h5, h6, h7⟩
/-- whatever turns another block, none of the reader's, or lays new ones -/
theorem Rdr.grown {w w' : World} {g K : Nat} (h : Rdr w g K) {row : Option Nat} (hg : w.grownBy w' row) (hr : ∀ k, row = some k → g < k) : Rdr w' g K := by
  obtain ⟨A, n, c, p, xs, h1, h2, h3, h4, h5, h6, h7⟩ := h
  refine ⟨A, n, c, p, xs, (hg.block g (Array.getElem?_eq_some_iff.1 h1).1 (fun e => ?_)).trans h1, h2, h3, h4, h5, fun hn => ?_, h7⟩
  · have := hr g e.symm; omega
  · have h0 : 0 < xs.length := by
      cases xs with
      | nil => simp [flU] at hn
      | cons x xs => simp
    obtain ⟨b, off, e, hb, hc⟩ := h6 hn
    refine ⟨b, off, e, Nat.lt_of_lt_of_le hb hg.size, fun i u hu => hg.cell (hc i u hu) (fun h => ?_)⟩
    have q1 := h7 (by omega) _ e
    have q2 := hr b h.symm
    simp at q1
    omega
theorem grown_new {w w1 w2 : World} {g : Nat} (h : w.grownBy w1 (some g)) {row : Option Nat} (h2 : w1.grownBy w2 row) (hr : ∀ k, row = some k → w.heap.size ≤ k) : w.grownBy w2 (some g) :=
  ⟨h2.os.trans h.os, h2.tape.trans h.tape, h2.output.trans h.output, Nat.le_trans h.size h2.size, fun k hk hne => (h2.block k (Nat.lt_of_lt_of_le hk h.size) (fun e => by have := hr k e.symm; omega)).trans (h.block k hk hne)⟩
theorem grown_same {w w1 w2 : World} {g : Nat} (h : w.grownBy w1 (some g)) (h2 : w1.grownBy w2 (some g)) : w.grownBy w2 (some g) :=
  ⟨h2.os.trans h.os, h2.tape.trans h.tape, h2.output.trans h.output, Nat.le_trans h.size h2.size, fun k hk hne => (h2.block k (Nat.lt_of_lt_of_le hk h.size) hne).trans (h.block k hk hne)⟩
theorem grown_refl (w : World) (r : Option Nat) : w.grownBy w r := ⟨rfl, rfl, rfl, Nat.le_refl _, fun _ _ _ => rfl⟩
theorem grown_alloc {w w1 : World} {g : Nat} (h : w.grownBy w1 (some g)) (o : Obj) : w.grownBy (w1.alloc o) (some g) := grown_new h (World.grownBy_alloc w1 o none) (fun k e => by cases e)
/-- a row of the call's own lies on when the reader's block turns -/
theorem own_pick {w w' : World} {base t size n g : Nat} {v : Value} {xs : List Value} (h : w.ownsRow base t size v n xs) (hg : g < base) (hp : w.grownBy w' (some g)) : w'.ownsRow base t size v n xs :=
  h.kept hp (.inr (fun e => by have := (h.lt g e).1; omega))
/-- a drawing leaves all that lay as it lay but for the reader -/
theorem below_pick {w w1 w2 : World} {g B : Nat} (h : Below B w w1) (hp : w1.grownBy w2 (some g)) (hg : B ≤ g) (hB : B ≤ w1.heap.size) : Below B w w2 :=
  h.grown hp hB (fun k e => by cases e; exact hg)
theorem Rdr.drewN {w : World} {g K : Nat} (h : Rdr w g K) (n : Nat) : Rdr (w.drewN n) g K := h
theorem grown_drewN {w w' : World} {r : Option Nat} (h : w.grownBy w' r) (n : Nat) : w.grownBy (w'.drewN n) r := ⟨h.os, h.tape, h.output, h.size, h.block⟩
theorem pick_any (g K : Nat) (n : Int) (w : World) (hK : K ≤ 1000000000) (hn1 : 1 ≤ n) (hn2 : n ≤ 1000000) (hr : Rdr w g K) :
    Calls Try.prog 21 #[.pointer (some ⟨g, 0, none⟩), .int .i64 n] w fun e w' => ∃ v : Int, e = .returned (.int .i64 v) ∧ 0 ≤ v ∧ v < n ∧ w.grownBy w' (some g) ∧ Rdr w' g (K + 1) := by
  obtain ⟨A, m, c, p, xs, hg, hp, hm, hl, hx, hrd, hlt⟩ := hr
  have q0 : w.cell? ⟨g, 0, none⟩ = some (.slice A m c) := cell_of_row w g 0 _ _ _ hg
  have q1 : w.cell? ⟨g, 1, none⟩ = some (.int .i64 p) := cell_of_row w g 1 _ _ _ hg
  have hfr : w.frozen? ⟨g, 1, none⟩ = false := by simp [World.frozen?, hg]
  have hw' : (w.setCell ⟨g, 1, none⟩ (.int .i64 (p + 1))).heap[g]? = some (.cells #[.slice A m c, .int .i64 (p + 1)] 47) := heap_setCell_same w g 1 _ _ _ hg
  have q0' : (w.setCell ⟨g, 1, none⟩ (.int .i64 (p + 1))).cell? ⟨g, 0, none⟩ = some (.slice A m c) := cell_of_row _ g 0 _ _ _ hw'
  have q1' : (w.setCell ⟨g, 1, none⟩ (.int .i64 (p + 1))).cell? ⟨g, 1, none⟩ = some (.int .i64 (p + 1)) := cell_of_row _ g 1 _ _ _ hw'
  have hgr := grown_set w g 1 (.int .i64 (p + 1))
  have hnx := Rdr.next hp hm hl hx hrd hlt hw' hgr
  clear hg hw'
  have hpp : p ≤ 1000000000 := by omega
  by_cases hm0 : m = 0
  · subst hm0
    go_enter Try.func21, Try.ntmps21
    go_wp2
    go_ret
    exact ⟨0, rfl, Int.le_refl _, by omega, hgr, hnx⟩
  · obtain ⟨b, off, rfl, hb, hcc⟩ := hrd.atU (k := 0) (by omega)
    have hmz : ((m : Int) == 0) = false := by simp; omega
    have hnz : decide (n < 1) = false := by simp; omega
    have hbg : b ≠ g := by have := hlt (by omega) _ rfl; simp at this; omega
    by_cases hpm : p < m
    · have hx0 := hx p (by omega)
      have hcp : (w.setCell ⟨g, 1, none⟩ (.int .i64 (p + 1))).cell? ⟨b, off + p, none⟩ = some (.int .u8 (a1 xs p)) := (cell_other _ hbg).trans (hcc p (by omega))
      clear hcc hm0
      go_enter Try.func21, Try.ntmps21
      go_wp2
      go_ret
      exact ⟨_, rfl, Int.emod_nonneg _ (by omega), Int.emod_lt_of_pos _ (by omega), hgr, hnx⟩
    · have hmp : m ≤ p := by omega
      have hm1 : 1 ≤ m := by omega
      have hm2 : (1 : Int) ≤ (m : Int) := by omega
      have l1 : p % m < m := Nat.mod_lt _ (by omega)
      have l2 : (p * 7 + 3) % m < m := Nat.mod_lt _ (by omega)
      have hx1 := hx (p % m) (by omega)
      have hx2 := hx ((p * 7 + 3) % m) (by omega)
      have hcp1 : (w.setCell ⟨g, 1, none⟩ (.int .i64 (p + 1))).cell? ⟨b, off + p % m, none⟩ = some (.int .u8 (a1 xs (p % m))) := (cell_other _ hbg).trans (hcc _ (by omega))
      have hcp2 : (w.setCell ⟨g, 1, none⟩ (.int .i64 (p + 1))).cell? ⟨b, off + (p * 7 + 3) % m, none⟩ = some (.int .u8 (a1 xs ((p * 7 + 3) % m))) := (cell_other _ hbg).trans (hcc _ (by omega))
      have i1a : 0 ≤ ((p : Int) * 7 + 3) % (m : Int) := Int.emod_nonneg _ (by omega)
      have i1b : ((p : Int) * 7 + 3) % (m : Int) < (m : Int) := Int.emod_lt_of_pos _ (by omega)
      have i2a : 0 ≤ (p : Int) / (m : Int) := Int.ediv_nonneg (by omega) (by omega)
      have i2b : (p : Int) / (m : Int) ≤ (p : Int) := Int.ediv_le_self _ (by omega)
      clear hcc hm0
      go_enter Try.func21, Try.ntmps21
      go_wp2
      go_quiet (fail)
      go_wp2
      go_ret
      obtain ⟨r1, r2⟩ := mix_in (a1 xs (p % m) * 131 + a1 xs ((p * 7 + 3) % m) * 1117 + (p : Int) * 29 + (p : Int) / (m : Int) * 53) n (by omega) (by omega) hn1
      exact ⟨_, rfl, r1, r2, grown_drewN hgr _, hnx.drewN _⟩
end Go.Proofs.Ytckjagpjljbohaa

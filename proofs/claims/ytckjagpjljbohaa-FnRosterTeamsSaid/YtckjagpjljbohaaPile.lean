/- Walks: a pile of teams (a heap behind a pointer): what it holds; less; push. -/
import Derived.Test.YtckjagpjljbohaaHeap
import Derived.Test.YtckjagpjljbohaaRtLaw
import Derived.Test.YtckjagpjljbohaaStep
import Derived.Test.YtckjagpjljbohaaParts
import Derived.BigQuiet
import Derived.BigRegion
import Derived.StillTailTactics
import Derived.Deep.RegionLaw
namespace Go.Proofs.Ytckjagpjljbohaa
open Go.RowKit

theorem pless1_any (x y u v : Int) (w : World) : Calls Try.prog 25 #[.agg #[.int .i64 x, .int .i64 y], .agg #[.int .i64 u, .int .i64 v]] w (Ret w (.bool (decide (y < v)))) := by
  go_enter Try.func25, Try.ntmps25
  go_wp2
  go_ret
  exact ⟨rfl, ((Below.refl _ _).alloc (Nat.le_refl _) _).alloc (by simp) _⟩
theorem pless2_any (x y u v : Int) (w : World) : Calls Try.prog 26 #[.agg #[.int .i64 x, .int .i64 y], .agg #[.int .i64 u, .int .i64 v]] w (Ret w (.bool (decide (x < u)))) := by
  go_enter Try.func26, Try.ntmps26
  go_wp2
  go_ret
  exact ⟨rfl, ((Below.refl _ _).alloc (Nat.le_refl _) _).alloc (by simp) _⟩
/-- a pile's key and its function: by the time at which a team is free, or by its number -/
def pkey (b : Bool) : Int × Int → Int := fun p => if b = true then p.2 else p.1
def pfn (b : Bool) : FuncId := if b = true then 25 else 26
/-- a slice of a pile -/
def psl (o : Option Nat) (n c : Nat) : Value := .slice (o.map fun b => ⟨b, 0, none⟩) n c
theorem psl_own (o : Option Nat) (n c : Nat) : (psl o n c).ownBlock = o := by cases o <;> rfl
/-- the pile's variable lies in block h, its teams in block o -/
def PL (b : Bool) (w : World) (h base : Nat) (o : Option Nat) (n c : Nat) (xs : List (Int × Int)) : Prop :=
  w.heap[h]? = some (.cells #[psl o n c, .func (.func (pfn b)) #[] #[]] 58) ∧ xs.length = n ∧ w.ownsRow base 54 2 (psl o n c) n (fl2 xs)
/-- nothing but the pile's variable and its teams has turned -/
def PStep (w w' : World) (h : Nat) (o o' : Option Nat) : Prop := (w'.os = w.os ∧ w'.tape = w.tape ∧ w'.output = w.output) ∧ w.heap.size ≤ w'.heap.size ∧ (∀ k, k < w.heap.size → k ≠ h → o ≠ some k → w'.heap[k]? = w.heap[k]?) ∧ ∀ g, o' = some g → o = some g ∨ w.heap.size ≤ g
theorem PStep.refl (w : World) (h : Nat) (o : Option Nat) : PStep w w h o o := ⟨⟨rfl, rfl, rfl⟩, Nat.le_refl _, fun _ _ _ _ => rfl, fun _ h => .inl h⟩
theorem PStep.trans {w w' w'' : World} {h : Nat} {o o' o'' : Option Nat} (a : PStep w w' h o o') (b : PStep w' w'' h o' o'') : PStep w w'' h o o'' := by
  obtain ⟨⟨a1, a2, a3⟩, a4, a5, a6⟩ := a
  obtain ⟨⟨b1, b2, b3⟩, b4, b5, b6⟩ := b
  refine ⟨⟨b1.trans a1, b2.trans a2, b3.trans a3⟩, Nat.le_trans a4 b4, fun k hk h1 h2 => ?_, fun g hg => ?_⟩
  · rw [b5 k (by omega) h1 (fun e => by rcases a6 k e with c | c; exact h2 c; omega), a5 k hk h1 h2]
  · rcases b6 g hg with c | c
    · exact a6 g c
    · exact .inr (by omega)
theorem PStep.of_grown {w w' : World} {g : Nat} (h : Nat) (hg : w.grownBy w' (some g)) : PStep w w' h (some g) (some g) :=
  ⟨⟨hg.os, hg.tape, hg.output⟩, hg.size, fun k hk _ h2 => hg.block k hk (fun e => h2 e.symm), fun _ h => .inl h⟩
theorem PStep.of_below {w w' : World} (h : Nat) (o : Option Nat) (hb : Below w.heap.size w w') : PStep w w' h o o :=
  ⟨⟨hb.os, hb.tape, hb.output⟩, hb.size, fun k hk _ _ => hb.block k hk, fun _ h => .inl h⟩
theorem PStep.below {w w' w0 : World} {h : Nat} {o o' : Option Nat} (a : PStep w w' h o o') (hb : Below w0.heap.size w0 w) (hh : w0.heap.size ≤ h) (hg : ∀ g, o = some g → w0.heap.size ≤ g) : Below w0.heap.size w0 w' := by
  obtain ⟨⟨a1, a2, a3⟩, a4, a5, a6⟩ := a
  exact ⟨a1.trans hb.os, a2.trans hb.tape, a3.trans hb.output, Nat.le_trans hb.size a4, fun k hk => (a5 k (Nat.lt_of_lt_of_le hk hb.size) (by omega) (fun e => by have := hg k e; omega)).trans (hb.block k hk)⟩
section
variable {b : Bool} {w : World} {h base : Nat} {o : Option Nat} {n c : Nat} {xs : List (Int × Int)}
theorem PL.cell (hp : PL b w h base o n c xs) : w.cell? ⟨h, 0, none⟩ = some (psl o n c) := cell_of_row w h 0 _ _ _ hp.1
theorem PL.cellF (hp : PL b w h base o n c xs) : w.cell? ⟨h, 1, none⟩ = some (.func (.func (pfn b)) #[] #[]) := cell_of_row w h 1 _ _ _ hp.1
theorem PL.ne (hp : PL b w h base o n c xs) : o ≠ some h := fun e => by
  obtain ⟨h1, _, h3⟩ := hp
  subst e
  rcases h3.2 with ⟨hv, _⟩ | ⟨g', c', cur, hv, _, hh, _⟩
  · cases hv
  · simp only [psl, Option.map_some, Value.slice.injEq, Option.some.injEq, Addr.mk.injEq] at hv
    rw [← hv.1.1, h1] at hh
    injection hh with hh
    injection hh with _ hh
    cases hh
theorem PL.lt (hp : PL b w h base o n c xs) : h < w.heap.size := (Array.getElem?_eq_some_iff.1 hp.1).1
theorem PL.low (hp : PL b w h base o n c xs) {g : Nat} (e : o = some g) : base ≤ g ∧ g < w.heap.size := by
  subst e; exact hp.2.2.lt g rfl
theorem PL.kept {w' : World} (hp : PL b w h base o n c xs) {row : Option Nat} (hg : w.grownBy w' row) (h1 : row ≠ some h) (h2 : ∀ g, o = some g → row ≠ some g) : PL b w' h base o n c xs :=
  ⟨(hg.block h hp.lt (fun e => h1 e.symm)).trans hp.1, hp.2.1, hp.2.2.kept hg (by
    rw [psl_own]
    cases o with
    | none => exact .inl rfl
    | some g => exact .inr (fun e => h2 g rfl e.symm))⟩
theorem PL.below {w' : World} (hp : PL b w h base o n c xs) (hb : Below w.heap.size w w') : PL b w' h base o n c xs :=
  ⟨(hb.block h hp.lt).trans hp.1, hp.2.1, own_below hp.2.2 hb (Nat.le_refl _)⟩
theorem PL.drew (hp : PL b w h base o n c xs) : PL b w.drew h base o n c xs := hp
end
theorem grown_setP (w : World) (b i : Nat) (v : Value) : w.grownBy (w.setCell ⟨b, i, none⟩ v) (some b) := only_setCell (World.grownBy.refl w (some b)) (p := ⟨b, i, none⟩) (.inl rfl) v
theorem info_team : (Try.prog.info? 54).map (fun i => (i.zero, i.size, i.bytes)) = some (some (.agg #[.int .i64 0, .int .i64 0]), 2, 16) := by kernel_rfl
theorem own_drewP {w : World} {base t size n : Nat} {v : Value} {xs : List Value} (h : w.ownsRow base t size v n xs) : w.drew.ownsRow base t size v n xs := h
theorem undrewP {w w' : World} {r : Option Nat} (h : w.drew.grownBy w' r) : w.grownBy w' r := ⟨h.os, h.tape, h.output, h.size, h.block⟩
theorem PL.alloc {b : Bool} {w : World} {h base : Nat} {o : Option Nat} {n c : Nat} {xs : List (Int × Int)} (hp : PL b w h base o n c xs) (ob : Obj) : PL b (w.alloc ob) h base o n c xs :=
  hp.below ((Below.refl _ _).alloc (Nat.le_refl _) ob)
theorem PL.mid {b : Bool} {w w1 : World} {h base : Nat} {o : Option Nat} {n c : Nat} {xs : List (Int × Int)} {v : Value} (hp : PL b w h base o n c xs) (hv : v = psl o n c) (hg : w.grownBy w1 v.ownBlock) : w1.heap[h]? = some (.cells #[psl o n c, .func (.func (pfn b)) #[] #[]] 58) := by
  subst hv
  rw [psl_own] at hg
  exact (hg.block h hp.lt (fun e => hp.ne e.symm)).trans hp.1
/-- behind a store into the pile's variable -/
theorem PL.pushed {b : Bool} {w w1 w2 : World} {h base : Nat} {o : Option Nat} {n c A c' m : Nat} {xs ys : List (Int × Int)} (hp : PL b w h base o n c xs) (hg : w.grownBy w1 (psl o n c).ownBlock) (hy : ys.length = m)
    (ho : w1.ownsRow base 54 2 (.slice (some ⟨A, 0, none⟩) m c') m (fl2 ys)) (e : w2 = w1.setCell ⟨h, 0, none⟩ (.slice (some ⟨A, 0, none⟩) m c')) (hA : o = some A ∨ w.heap.size ≤ A) : PL b w2 h base (some A) m c' ys ∧ PStep w w2 h o (some A) := by
  subst e
  have hh1 := hp.mid rfl hg
  rw [psl_own] at hg
  have hs := hg.size
  have hAh : h ≠ A := fun e => by
    rcases hA with c | c
    · exact hp.ne (e ▸ c)
    · have := hp.lt; omega
  refine ⟨⟨heap_setCell_same w1 h 0 _ _ _ hh1, hy, ho.kept (grown_setP w1 h 0 _) (.inr (fun e => hAh (Option.some.inj e).symm))⟩, ⟨hg.os, hg.tape, hg.output⟩, by simp; omega, fun k hk h1 h2 => ?_, fun g e => ?_⟩
  · rw [Below.heap_setCell w1 _ _ k (fun e => h1 e), hg.block k hk (fun e => h2 e.symm)]
  · obtain rfl := Option.some.inj e
    exact hA
end Go.Proofs.Ytckjagpjljbohaa

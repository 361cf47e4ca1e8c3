/- What a round of a loop over an iterator must keep: all but what the loop's body owns. -/
import Derived.Test.YtfnpkbfgemcbaaaBase
import Derived.RangeFuncNested
import Derived.RangeFuncBound
import Derived.RangeFuncCalls
import Derived.RangeFuncLeaves
import Derived.Shelf.Abstract
import Derived.Shelf.RegionOpen
import Derived.OwnWalkIn
import Derived.TacticsInMore
import Derived.LoopNIn
import Derived.LoopIn
namespace Go.Proofs.Ytfnpkbfgemcbaaa
open Go.RowKit Go.Shelf

/-- the body owns no block that is not there -/
def OwIn (Ow : World → Nat → Prop) (W : World) : Prop := ∀ j, Ow W j → j < W.heap.size
/-- a round turns no cells but those that the body owns (Ow), and owns no old block anew -/
structure KpO (Ow : World → Nat → Prop) (W W' : World) : Prop where
  size : W.heap.size ≤ W'.heap.size
  same : OwIn Ow W → ∀ j c t f, ¬ Ow W j → W.heap[j]? = some (.cells c t f) → W'.heap[j]? = some (.cells c t f)
  own : OwIn Ow W → ∀ j, Ow W' j → (Ow W j ∨ W.heap.size ≤ j) ∧ j < W'.heap.size

theorem KpO.refl (Ow : World → Nat → Prop) (W : World) : KpO Ow W W := ⟨Nat.le_refl _, fun _ _ _ _ _ _ h => h, fun h j hj => ⟨.inl hj, h j hj⟩⟩
theorem KpO.inn {Ow : World → Nat → Prop} {A B : World} (h : KpO Ow A B) (hA : OwIn Ow A) : OwIn Ow B := fun j hj => (h.own hA j hj).2
theorem KpO.trans {Ow : World → Nat → Prop} {A B C : World} (h : KpO Ow A B) (k : KpO Ow B C) : KpO Ow A C := by
  refine ⟨Nat.le_trans h.size k.size, fun hA j c t f hn hc => ?_, fun hA j hj => ?_⟩
  · have hlt : j < A.heap.size := (Array.getElem?_eq_some_iff.1 hc).1
    refine k.same (h.inn hA) j c t f (fun hb => ?_) (h.same hA j c t f hn hc)
    rcases (h.own hA j hb).1 with h1 | h1
    · exact hn h1
    · omega
  · obtain ⟨h1, h2⟩ := k.own (h.inn hA) j hj
    refine ⟨?_, h2⟩
    rcases h1 with h1 | h1
    · exact (h.own hA j h1).1
    · exact .inr (Nat.le_trans h.size h1)
theorem KpO.not_own {Ow : World → Nat → Prop} {A B : World} (h : KpO Ow A B) (hA : OwIn Ow A) {j : Nat} (hn : ¬ Ow A j) (hj : j < A.heap.size) : ¬ Ow B j := fun hb => by
  rcases (h.own hA j hb).1 with h1 | h1
  · exact hn h1
  · omega
/-- the law's own book-keeping turns a block from B on that holds no cells -/
theorem KpO.put {Ow : World → Nat → Prop} {B : Nat} (hp : ∀ W l o' j, B ≤ l → Ow (W.putObj l o') j → Ow W j) (W : World) (l : Nat) (o o' : Obj) (hB : B ≤ l) (hl : W.heap[l]? = some o) (hc : o.isCells = false) : KpO Ow W (W.putObj l o') := by
  refine ⟨by simp, fun _ j c t f _ hj => ?_, fun hW j hj => ?_⟩
  · rw [World.putObj_heap_other (fun e => by subst e; rw [hl] at hj; cases hj; simp [Obj.isCells] at hc)]
    exact hj
  · have := hp W l o' j hB hj
    exact ⟨.inl this, by simpa using hW j this⟩
/-- what the body must say of its blocks: new blocks are not owned by being laid; the book-keeping turns none of them -/
structure OwOk (Ow : World → Nat → Prop) (w : World) : Prop where
  alloc : ∀ W o j, w.heap.size ≤ W.heap.size → Ow (W.alloc o) j → Ow W j
  inn : ∀ W, Below w.heap.size w W → OwIn Ow W
  here : ∀ W j, Below w.heap.size w W → Ow W j → Ow w j

theorem boxed_below {W W' : World} {B : Nat} {t : TypeId} {v : Value} (h : Boxed W B t v) {C : Nat} (hb : Below C W W') (hC : B < C) : Boxed W' B t v := (hb.block B hC).trans h
theorem boxed_set {W : World} {B : Nat} {t : TypeId} {v : Value} (h : Boxed W B t v) (u : Value) : Boxed (W.setCell ⟨B, 0, none⟩ u) B t u := by
  unfold Boxed at *
  rw [heap_setCell_same W B 0 #[v] t u h]
  rfl
theorem boxed_far {W : World} {B : Nat} {t : TypeId} {v : Value} (h : Boxed W B t v) {p : Addr} (hp : B ≠ p.block) (u : Value) : Boxed (W.setCell p u) B t v := (Below.heap_setCell W p u B hp).trans h
theorem boxed_drew {W : World} {B : Nat} {t : TypeId} {v : Value} (h : Boxed W B t v) : Boxed W.drew B t v := h
theorem boxed_ownFrom {β : Type} (C B : Nat) (t : TypeId) (f : β → Value) : OwnFrom C (fun (s : β) W => Boxed W B t (f s)) := fun s W W' row hs hg hr => by
  refine (hg.block B hs.lt (fun e => ?_)).trans hs
  obtain ⟨_, o, ho, hc⟩ := hr B e.symm
  rw [show W.heap[B]? = _ from hs] at ho
  cases ho
  simp [Obj.isCells] at hc
end Go.Proofs.Ytfnpkbfgemcbaaa

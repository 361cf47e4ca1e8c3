/- A range over an iterator whose rounds never stop it and keep what is no cells behind the loop's own record: my own law, with the loop's number in the iterator's contract. -/
import Derived.Test.YtfnpkbfgemcbaaaPa7
namespace Go.Proofs.Ytfnpkbfgemcbaaa
open Go.RowKit Go.Shelf

/-- what one round tells: it goes on, the caller's facts move on, the body's blocks alone turn, and nothing that is no cells turns behind block l -/
def Round (Ow : World → Nat → Prop) (l : Nat) (K : World → Prop) (W1 : World) (e : Ending) (W' : World) : Prop :=
  e = .returned (.bool true) ∧ K W' ∧ KpO Ow W1 W' ∧ KeepsFrom (l + 1) W1 W'
/-- a function goes over seq, whatever loop it is called by -/
def Goes (n gf : Nat) (lb : Array Value) (Ow : World → Nat → Prop) (seq : List (Nat × Int)) (w : World) : Prop :=
  ∀ (l : Nat) (J : List (Nat × Int) → World → Prop) (W : World), Below w.heap.size w W → w.heap.size ≤ l → l < W.heap.size → OwnFrom (l + 1) J → J [] W →
    (∀ pre x W1, J pre W1 → pre.length < seq.length → YieldAt Fence.wide (n - 1) Try.prog l (encM x) W1 (Round Ow l (J (pre ++ [x])) W1)) →
    CallsIn Fence.wide n Try.prog gf (#[.func (.yield l) #[] #[]] ++ lb) W fun e W' => (∃ v, e = .returned v) ∧ J seq W'
/-- what lies at a block that is no cells abides what turns another block -/
theorem lies_on {W W' : World} {row : Option Nat} {k : Nat} {o : Obj} (hg : W.grownBy W' row) (h : W.heap[k]? = some o) (hr : ∀ r, row = some r → k < r) : W'.heap[k]? = some o :=
  (hg.block k (Array.getElem?_eq_some_iff.1 h).1 (fun e => by have := hr k e.symm; omega)).trans h
theorem range_goes {n gf : Nat} {g : Operand} {ps : Array Tmp} {assign body : Code} {Q : Exit → Act → World → Prop} {a : Act} {w w0 : World} {lb : Array Value} {Ow : World → Nat → Prop} {seq : List (Nat × Int)}
    (h1 : 1 ≤ n) (hg : a.eval g = .func (.func gf) #[] lb) (eg : ∀ args w, (callFunc gf args).run Try.prog w = .ok (.enter gf args) w) (hps : ps.size = 2)
    (hseq : Goes (n - 1) gf lb Ow seq w0) (hb0 : Below w0.heap.size w0 w)
    (hput : ∀ W l o' j, w.heap.size ≤ l → Ow (W.putObj l o') j → Ow W j)
    (I : List (Nat × Int) → World → Prop) (hI : OwnFrom w.heap.size I) (h0 : I [] w) (b : Nat × Int → Act)
    (hassign : ∀ (l : Nat) (x : Nat × Int) (W : World) (K : Act → World → Prop), K (b x) W →
      assign.wpIn (Fence.wide.inRound l) (n - 1 - 1) Try.prog (Exit.then K (fun _ _ _ => False)) { tmps := (ps.zip (encM x)).foldl (fun t (p, v) => t.setIfInBounds p v) a.tmps, defers := [] } W)
    (hbody : ∀ (l : Nat) (pre : List (Nat × Int)) (x : Nat × Int) (W : World), I pre W → pre.length < seq.length →
      body.wpIn (Fence.wide.inRound l) (n - 1 - 1) Try.prog (fun e _ W' => e = .normal ∧ KeepsFrom w.heap.size W W' ∧ KpO Ow W W' ∧ I (pre ++ [x]) W') (b x) W)
    (hdone : ∀ (D : Nat) (W : World), w.heap.size ≤ D → I seq W → W.heap[D]? = some (.deferred (some [])) → Q .normal { a with defers := { target := .collected D, args := #[] } :: a.defers } W) :
    (Code.rangeFunc g ps assign body).wpIn Fence.wide n Try.prog Q a w := by
  refine wpIn_rangeFunc fun fn hfn => ?_
  -- the loop's record, by its state; the block behind which it lies gathers deferred calls
  obtain ⟨rc, hrc⟩ : ∃ rc : LoopState → Loop, ∀ s, rc s = { state := s, pending := none, fn := fn, tmps := a.tmps, params := ps, assign := assign, body := body, defers := w.heap.size } := ⟨_, fun _ => rfl⟩
  have en := run_enterLoop_outer (P := Try.prog) (w := w) fn a.tmps ps assign body
  rw [← hrc .ready] at en
  have dLies : ((w.alloc (.deferred (some []))).alloc (.loop (rc .ready))).heap[w.heap.size]? = some (.deferred (some [])) :=
    (Below.heap_alloc _ _ _ (by simp)).trans (World.alloc_heap_new w _)
  have rLies : ((w.alloc (.deferred (some []))).alloc (.loop (rc .ready))).heap[w.heap.size + 1]? = some (.loop (rc .ready)) := by
    have := World.alloc_heap_new (w.alloc (.deferred (some []))) (.loop (rc .ready))
    rwa [World.size_alloc] at this
  have iLies : I [] ((w.alloc (.deferred (some []))).alloc (.loop (rc .ready))) := hI.alloc _ (hI.alloc _ h0)
  have bLies : Below w.heap.size w ((w.alloc (.deferred (some []))).alloc (.loop (rc .ready))) := ((Below.refl _ w).alloc (Nat.le_refl _) _).alloc (by simp) _
  have sLies : ((w.alloc (.deferred (some []))).alloc (.loop (rc .ready))).heap.size = w.heap.size + 2 := by simp
  revert en dLies rLies iLies bLies sLies
  generalize (w.alloc (.deferred (some []))).alloc (.loop (rc .ready)) = V
  intro en dLies rLies iLies bLies sLies
  have hargs : (invoke (.fn (.func gf) lb) #[.func (.yield (w.heap.size + 1)) #[] #[]]).run Try.prog V = .ok (.enter gf (#[.func (.yield (w.heap.size + 1)) #[] #[]] ++ lb)) V := by
    simp [invoke, go_sem, eg]
  refine ⟨w.heap.size + 1, _, V, { target := .fn (.func gf) lb, args := #[.func (.yield (w.heap.size + 1)) #[] #[]] }, V, gf, _, V, en, ?_, fun _ _ => trivial, hargs, fun _ => h1, ?_⟩
  · simp only [resolve, hg]
    simp [go_sem]
  refine (hseq (w.heap.size + 1) (fun pre W => I pre W ∧ W.heap[w.heap.size]? = some (.deferred (some [])) ∧ W.heap[w.heap.size + 1]? = some (.loop (rc .ready))) V (hb0.trans (bLies.mono hb0.size)) (by have := hb0.size; omega) (by omega) ?_ ⟨iLies, dLies, rLies⟩ ?_).mono ?_
  · -- the caller's facts abide what turns behind the record
    intro s X Y row hs hgr hr
    exact ⟨hI s X Y row hs.1 hgr (fun r e => by obtain ⟨q1, q2⟩ := hr r e; exact ⟨by omega, q2⟩), lies_on hgr hs.2.1 (fun r e => by have := (hr r e).1; omega), lies_on hgr hs.2.2 (fun r e => by have := (hr r e).1; omega)⟩
  · -- a round
    rintro pre x W ⟨hi, hd, hl⟩ hlen
    have hlt := (Array.getElem?_eq_some_iff.1 hl).1
    have hy := run_yield (P := Try.prog) (args := encM x) hl (by rw [hrc]; exact hps.symm)
    rw [hrc] at hy
    refine ⟨fn, _, assign, body, hy, roundIn_of_wpIn hfn (hassign _ x W _ ⟨_, run_beginRound hl (by rw [hrc]), ?_⟩)⟩
    have hbusy : (W.putObj (w.heap.size + 1) (.loop { rc .ready with state := .busy })).heap[w.heap.size + 1]? = some (.loop { rc .ready with state := .busy }) := World.putObj_heap_same hlt
    refine wpIn_mono (hbody _ pre x _ (hI.putObj _ hi (by omega) hl rfl) hlen) ?_
    rintro e a3 W3 ⟨rfl, hk, hkp, hi3⟩
    have hb3 := hk.same _ _ (by omega) hbusy rfl
    have hd3 := hk.same _ _ (Nat.le_refl _) ((World.putObj_heap_other (by omega)).trans hd) rfl
    have hend := run_endRound (P := Try.prog) none hb3
    have hback : ({ ({ rc .ready with state := .busy } : Loop) with state := .ready, pending := none } : Loop) = rc .ready := by rw [hrc]
    simp only [Option.isNone_none, if_true] at hend
    rw [hback] at hend
    have hlt3 := (Array.getElem?_eq_some_iff.1 hb3).1
    refine ⟨_, _, hend, rfl, ⟨hI.putObj _ hi3 (by omega) hb3 rfl, (World.putObj_heap_other (by omega)).trans hd3, World.putObj_heap_same hlt3⟩, ?_, ?_⟩
    · exact ((KpO.put hput W _ _ _ (by omega) hl rfl).trans hkp).trans (KpO.put hput W3 _ _ _ (by omega) hb3 rfl)
    · refine ⟨by rw [World.putObj_size]; have := hk.size; rw [World.putObj_size] at this; exact this, fun k o hB ho hc => ?_⟩
      rw [World.putObj_heap_other (by omega)]
      refine hk.same k o (by omega) ?_ hc
      rw [World.putObj_heap_other (by omega)]
      exact ho
  · -- behind the iterator
    rintro e W2 ⟨⟨v, rfl⟩, hi, hd, hl⟩
    refine ⟨none, _, ?_, hdone _ _ (Nat.le_refl _) (hI.putObj (.loop { rc .ready with state := .exhausted }) hi (by omega) hl rfl) ((World.putObj_heap_other (by omega)).trans hd)⟩
    have := run_endLoop (P := Try.prog) hl (by rw [hrc]; simp)
    rw [this]
    rw [hrc]
end Go.Proofs.Ytfnpkbfgemcbaaa

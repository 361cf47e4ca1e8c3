/- Walks: the heap of towns: its own Push and Pop. -/
import Derived.Test.YtdnjeahbnidefaaHw1
import Derived.Test.YtdnjeahbnidefaaStep
import Derived.Deep.RegionLaw
namespace Go.Proofs.Ytdnjeahbnidefaa
open Go.RowKit

/-- append as one step of a region; where the new row lies -/
theorem step_append_at {P : Program} {w : World} {ops : Array Oper} {o : Oper} {a : Act} {K : Act → World → Prop} {Q : Exit → Act → World → Prop} {E : Prop} (hgd : o.guard = none) (s x : Operand) (t : TypeId)
    (ho : o.op = .call { callee := .builtin .append, args := #[s, x], argTypes := #[t, t] })
    (base : Nat) (e : TypeId) (i : TypeInfo) (z : Value) (size bytes : Nat) (ht : P.underlying t = some (.slice e)) (hi : P.info? e = some i) (hz : i.zero = some z)
    (hsize : i.size = size) (hby : i.bytes = bytes) (hzs : z.cells.size = size) (hsz : 0 < size)
    (v : Value) (n : Nat) (xs : List Value) (hs : a.eval s = v) (hown : w.ownsRow base e size v n xs)
    (ad : Addr) (m c : Nat) (news : List Value) (hx : a.eval x = .slice (some ad) m c) (hl : news.length = m * size) (hnews : ∀ j u, news[j]? = some u → w.cell? (ad.add j) = some u) (h1 : ∀ u ∈ news, u.oneCell' = true)
    (h63 : n + m ≤ maxLen) (hbytes : (n + m) * bytes ≤ 140737488355328) (hbase : base ≤ w.heap.size) (N : Nat) (hN : n + m = N)
    (h : ∀ A cap w', w'.ownsRow base e size (.slice A N cap) N (xs ++ news) → w.grownBy w' v.ownBlock → ((Value.slice A N cap).ownBlock = v.ownBlock ∨ (Value.slice A N cap).ownBlock = some w.heap.size) → K (a.put o.dst (.slice A N cap)) w') :
    if Region.wanted o (yielded ops a.tmps) = true then Oper.wp P o a w K Q else E := by
  subst hN
  have hw : Region.wanted o (yielded ops a.tmps) = true := by simp [Region.wanted, hgd]
  rw [if_pos hw]
  obtain ⟨v', w', hr, h2, h3, _, h5⟩ := run_append_own_at (P := P) w base t o.type e i z size bytes ht hi hz hsize hby hzs hsz v n xs hown ad m c news hl hnews h1 h63 hbytes hbase
  obtain ⟨A, cap, rfl⟩ := own_form h2
  unfold Oper.wp execOp
  simp only [ho, resolve, invoke, builtin, Sem.run_bind, Sem.run_pure, Result.andThen_ok, List.map_toArray, List.map_cons, List.map_nil, hs, hx, hr]
  exact h A cap w' h2 h3 h5
/-- the heap's variable lies in block h, its towns in block g -/
def HP (w : World) (h base g n c : Nat) (xs : List (Int × Int)) : Prop :=
  w.heap[h]? = some (.cells #[.slice (some ⟨g, 0, none⟩) n c] 84) ∧ xs.length = n ∧ w.ownsRow base 82 2 (.slice (some ⟨g, 0, none⟩) n c) n (fl2 xs)
/-- nothing but the heap's variable and its towns has turned -/
def HStep (w w' : World) (h g g' : Nat) : Prop := (w'.os = w.os ∧ w'.tape = w.tape ∧ w'.output = w.output) ∧ w.heap.size ≤ w'.heap.size ∧ (∀ k, k < w.heap.size → k ≠ h → k ≠ g → w'.heap[k]? = w.heap[k]?) ∧ (g' = g ∨ w.heap.size ≤ g')
theorem HStep.refl (w : World) (h g : Nat) : HStep w w h g g := ⟨⟨rfl, rfl, rfl⟩, Nat.le_refl _, fun _ _ _ _ => rfl, .inl rfl⟩
theorem HStep.trans {w w' w'' : World} {h g g' g'' : Nat} (a : HStep w w' h g g') (b : HStep w' w'' h g' g'') : HStep w w'' h g g'' := by
  obtain ⟨⟨a1, a2, a3⟩, a4, a5, a6⟩ := a
  obtain ⟨⟨b1, b2, b3⟩, b4, b5, b6⟩ := b
  refine ⟨⟨b1.trans a1, b2.trans a2, b3.trans a3⟩, Nat.le_trans a4 b4, fun k hk h1 h2 => ?_, ?_⟩
  · rw [b5 k (by omega) h1 (by omega), a5 k hk h1 h2]
  · omega
theorem HStep.of_grown {w w' : World} {g : Nat} (h : Nat) (hg : w.grownBy w' (some g)) : HStep w w' h g g :=
  ⟨⟨hg.os, hg.tape, hg.output⟩, hg.size, fun k hk _ h2 => hg.block k hk (fun e => h2 (Option.some.inj e)), .inl rfl⟩
theorem HStep.below {w w' w0 : World} {h g g' : Nat} (a : HStep w w' h g g') (hb : Below w0.heap.size w0 w) (hh : w0.heap.size ≤ h) (hg : w0.heap.size ≤ g) : Below w0.heap.size w0 w' := by
  obtain ⟨⟨a1, a2, a3⟩, a4, a5, a6⟩ := a
  exact ⟨a1.trans hb.os, a2.trans hb.tape, a3.trans hb.output, Nat.le_trans hb.size a4, fun k hk => (a5 k (Nat.lt_of_lt_of_le hk hb.size) (by omega) (by omega)).trans (hb.block k hk)⟩
theorem HP.cell {w : World} {h base g n c : Nat} {xs : List (Int × Int)} (hp : HP w h base g n c xs) : w.cell? ⟨h, 0, none⟩ = some (.slice (some ⟨g, 0, none⟩) n c) := cell_of_row w h 0 _ _ _ hp.1
theorem HP.ne {w : World} {h base g n c : Nat} {xs : List (Int × Int)} (hp : HP w h base g n c xs) : h ≠ g := fun e => by
  obtain ⟨h1, _, h3⟩ := hp
  rcases h3.2 with ⟨hv, _⟩ | ⟨g', c', cur, hv, _, hh, _⟩
  · cases hv
  · simp only [Value.slice.injEq, Option.some.injEq, Addr.mk.injEq] at hv
    rw [← hv.1.1, ← e, h1] at hh
    injection hh with hh
    injection hh with _ hh
    cases hh
theorem HP.drewN {w : World} {h base g n c : Nat} {xs : List (Int × Int)} (hp : HP w h base g n c xs) (t : Nat) : HP (w.drewN t) h base g n c xs := hp
theorem HP.base {w : World} {h base g n c : Nat} {xs : List (Int × Int)} (hp : HP w h base g n c xs) : base ≤ g ∧ g < w.heap.size := hp.2.2.lt g rfl
theorem HP.lt {w : World} {h base g n c : Nat} {xs : List (Int × Int)} (hp : HP w h base g n c xs) : h < w.heap.size := (Array.getElem?_eq_some_iff.1 hp.1).1
/-- the towns' row is turned -/
theorem HP.row {w w' : World} {h base g n c : Nat} {xs ys : List (Int × Int)} (hp : HP w h base g n c xs) (hg : w.grownBy w' (some g)) (hl : ys.length = n) (ho : w'.ownsRow base 82 2 (.slice (some ⟨g, 0, none⟩) n c) n (fl2 ys)) : HP w' h base g n c ys :=
  ⟨(hg.block h hp.lt (fun e => hp.ne (Option.some.inj e))).trans hp.1, hl, ho⟩
theorem HP.kept {w w' : World} {h base g n c : Nat} {xs : List (Int × Int)} (hp : HP w h base g n c xs) {row : Option Nat} (hg : w.grownBy w' row) (h1 : row ≠ some h) (h2 : row ≠ some g) : HP w' h base g n c xs :=
  ⟨(hg.block h hp.lt (fun e => h1 e.symm)).trans hp.1, hp.2.1, hp.2.2.kept hg (.inr (fun e => h2 e.symm))⟩
theorem grown_setH (w : World) (b i : Nat) (v : Value) : w.grownBy (w.setCell ⟨b, i, none⟩ v) (some b) := only_setCell (World.grownBy.refl w (some b)) (p := ⟨b, i, none⟩) (.inl rfl) v
theorem info_townAt : (Try.prog.info? 82).map (fun i => (i.zero, i.size, i.bytes)) = some (some (.agg #[.int .i64 0, .int .i64 0]), 2, 16) := by kernel_rfl
theorem assert_town (x y : Int) (w : World) : (Instr.typeAssert (.iface 82 (.agg #[.int .i64 x, .int .i64 y])) 20 82 false).run Try.prog w = .ok (.agg #[.int .i64 x, .int .i64 y]) w := by kernel_rfl

theorem HP.mid {w w1 : World} {h base g n c : Nat} {xs : List (Int × Int)} {o : Obj} (hp : HP w h base g n c xs) (hg : (w.alloc o).grownBy w1 (some g)) : w1.heap[h]? = some (.cells #[.slice (some ⟨g, 0, none⟩) n c] 84) :=
  (hg.block h (by have := hp.lt; simp; omega) (fun e => hp.ne (Option.some.inj e))).trans ((Below.heap_alloc w o h hp.lt).trans hp.1)
/-- behind a store into the heap's variable -/
theorem HP.pushed {w w1 w2 : World} {h base g n c A c' : Nat} {xs ys : List (Int × Int)} {o : Obj} (hp : HP w h base g n c xs) (hg : (w.alloc o).grownBy w1 (some g)) (hy : ys.length = n + 1)
    (ho : w1.ownsRow base 82 2 (.slice (some ⟨A, 0, none⟩) (n + 1) c') (n + 1) (fl2 ys)) (e : w2 = w1.setCell ⟨h, 0, none⟩ (.slice (some ⟨A, 0, none⟩) (n + 1) c')) (hA : A = g ∨ w.heap.size ≤ A) : HP w2 h base A (n + 1) c' ys ∧ HStep w w2 h g A := by
  subst e
  have hs := hg.size
  simp only [World.size_alloc] at hs
  have hh1 : w1.heap[h]? = some (.cells #[.slice (some ⟨g, 0, none⟩) n c] 84) := (hg.block h (by have := hp.lt; simp; omega) (fun e => hp.ne (Option.some.inj e))).trans ((Below.heap_alloc w o h hp.lt).trans hp.1)
  have hAh : h ≠ A := fun e => by
    rcases hA with c | c
    · exact hp.ne (e.trans c)
    · have := hp.lt; omega
  refine ⟨⟨heap_setCell_same w1 h 0 _ _ _ hh1, hy, ho.kept (grown_setH w1 h 0 _) (.inr (fun e => hAh (Option.some.inj e).symm))⟩, ⟨hg.os, hg.tape, hg.output⟩, by simp; omega, fun k hk h1 h2 => ?_, hA⟩
  rw [Below.heap_setCell w1 _ _ k (fun e => h1 e), hg.block k (by simp; omega) (fun e => h2 (Option.some.inj e)), Below.heap_alloc w o k hk]
end Go.Proofs.Ytdnjeahbnidefaa

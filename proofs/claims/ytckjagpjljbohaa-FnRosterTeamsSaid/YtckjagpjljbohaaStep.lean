/- append as one step of a region that draws its order, whatever is appended, nothing too. No program is named here. -/
import Derived.Test.YtckjagpjljbohaaBase
import Derived.Deep.RegionHeld3
import Derived.Deep.AppendLies
namespace Go.Proofs.Ytckjagpjljbohaa
open Go.RowKit

theorem step_append_all {P : Program} {w : World} {ops : Array Oper} {o : Oper} {a : Act} {K : Act → World → Prop} {Q : Exit → Act → World → Prop} {E : Prop} (hgd : o.guard = none) (s x : Operand) (t : TypeId)
    (ho : o.op = .call { callee := .builtin .append, args := #[s, x], argTypes := #[t, t] })
    (base : Nat) (e : TypeId) (i : TypeInfo) (z : Value) (size bytes : Nat) (ht : P.underlying t = some (.slice e)) (hi : P.info? e = some i) (hz : i.zero = some z)
    (hsize : i.size = size) (hby : i.bytes = bytes) (hzs : z.cells.size = size) (hsz : 0 < size)
    (v : Value) (n : Nat) (xs : List Value) (hs : a.eval s = v) (hown : w.ownsRow base e size v n xs)
    (ad : Addr) (m c : Nat) (news : List Value) (hx : a.eval x = .slice (some ad) m c) (hl : news.length = m * size) (hnews : ∀ j u, news[j]? = some u → w.cell? (ad.add j) = some u) (h1 : ∀ u ∈ news, u.oneCell' = true)
    (h63 : n + m ≤ maxLen) (hbytes : (n + m) * bytes ≤ 140737488355328) (hbase : base ≤ w.heap.size) (N : Nat) (hN : n + m = N)
    (h : ∀ A cap w', w'.ownsRow base e size (.slice A N cap) N (xs ++ news) → w.grownBy w' v.ownBlock → K (a.put o.dst (.slice A N cap)) w') :
    if Region.wanted o (yielded ops a.tmps) = true then Oper.wp P o a w K Q else E := by
  subst hN
  have hw : Region.wanted o (yielded ops a.tmps) = true := by simp [Region.wanted, hgd]
  rw [if_pos hw]
  obtain ⟨v', w', hr, h2, h3, _, _⟩ := run_append_own_at (P := P) w base t o.type e i z size bytes ht hi hz hsize hby hzs hsz v n xs hown ad m c news hl hnews h1 h63 hbytes hbase
  obtain ⟨A, cap, rfl⟩ := own_form h2
  unfold Oper.wp execOp
  simp only [ho, resolve, invoke, builtin, Sem.run_bind, Sem.run_pure, Result.andThen_ok, List.map_toArray, List.map_cons, List.map_nil, hs, hx, hr]
  exact h A cap w' h2 h3
theorem own_cap {w : World} {base t size n cap : Nat} {A : Option Addr} {xs : List Value} (h : w.ownsRow base t size (.slice A n cap) n xs) : n ≤ cap := by
  rcases h.2 with ⟨_, hz⟩ | ⟨g, c, cur, hv, hb, hh, h1, _⟩
  · omega
  · simp only [Value.slice.injEq] at hv
    omega
theorem own_emptyH (w : World) (t size H : Nat) (h : w.heap.size = H) : (w.alloc (.cells #[] t)).ownsRow H t size (.slice (some ⟨H, 0, none⟩) 0 0) 0 [] := by
  subst h; exact own_empty w t size
theorem heap_newH (w : World) (o : Obj) (H : Nat) (h : w.heap.size = H) : (w.alloc o).heap[H]? = some o := by subst h; exact heap_alloc_new w o
theorem news_at {w : World} {B : Nat} {cs : Array Value} {t : TypeId} (hb : w.heap[B]? = some (.cells cs t)) : ∀ j u, cs.toList[j]? = some u → w.cell? ((⟨B, 0, none⟩ : Addr).add j) = some u := World.news_of_block hb
theorem Below.size_le {B : Nat} {w w' : World} (h : Below w.heap.size w w') (hB : B ≤ w.heap.size) : B ≤ w'.heap.size := Nat.le_trans hB h.size
theorem below_from {w w1 w2 : World} (h : Below w.heap.size w w1) (h2 : Below w1.heap.size w1 w2) : Below w.heap.size w w2 := h.trans (h2.mono h.size)
theorem keep3 {w : World} {a b c : Addr} {u v x : Value} (h0 : w.cell? a = some u) (h1 : w.cell? b = some v) (h2 : w.cell? c = some x) : ∀ w', Below w.heap.size w w' → w'.cell? a = some u ∧ w'.cell? b = some v ∧ w'.cell? c = some x ∧ Below w.heap.size w w' := fun _ h =>
  ⟨(h.cell (World.block_lt_of_cell? w _ h0)).trans h0, (h.cell (World.block_lt_of_cell? w _ h1)).trans h1, (h.cell (World.block_lt_of_cell? w _ h2)).trans h2, h⟩
theorem below_own {B base t size n : Nat} {a w w' : World} {v : Value} {xs : List Value} (h : Below B a w) (ho : w.ownsRow base t size v n xs) (hg : w.grownBy w' v.ownBlock) (hB : B ≤ base) (hz : B ≤ w.heap.size) : Below B a w' :=
  h.grown hg hz (fun k hk => Nat.le_trans hB (ho.lt k hk).1)
theorem book_cells (w : World) (u v x : Value) (t : TypeId) : ∀ w', Below (w.alloc (.cells #[u, v, x] t)).heap.size (w.alloc (.cells #[u, v, x] t)) w' →
    w'.cell? ⟨w.heap.size, 0, none⟩ = some u ∧ w'.cell? ⟨w.heap.size, 1, none⟩ = some v ∧ w'.cell? ⟨w.heap.size, 2, none⟩ = some x ∧ Below (w.alloc (.cells #[u, v, x] t)).heap.size (w.alloc (.cells #[u, v, x] t)) w' := fun w' h =>
  ⟨(h.cell (p := ⟨w.heap.size, 0, none⟩) (by simp)).trans (by simp), (h.cell (p := ⟨w.heap.size, 1, none⟩) (by simp)).trans (by simp), (h.cell (p := ⟨w.heap.size, 2, none⟩) (by simp)).trans (by simp), h⟩
end Go.Proofs.Ytckjagpjljbohaa

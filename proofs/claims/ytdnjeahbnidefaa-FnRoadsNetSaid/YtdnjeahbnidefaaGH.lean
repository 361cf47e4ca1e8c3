/- Texts of mine in one: Hw1, Hw2, Hw3, Hw4, Hw5, Hw6. -/
import Derived.Test.YtdnjeahbnidefaaGA
import Derived.Test.YtdnjeahbnidefaaMaps
import Derived.BigQuiet
import Derived.BigRegion
import Derived.IntWalk
import Derived.Deep.QuietTactic
import Derived.Deep.RegionLaw
import Derived.Deep.RegionHeld
/- Walks: the heap of towns: how its methods are found; Len, Less, Swap. -/
namespace Go.Proofs.Ytdnjeahbnidefaa
open Go.RowKit

theorem wrapchk (a : Addr) (s1 s2 : ByteArray) (ts : Array TypeId) (ty : TypeId) : Builtin.ssaWrapNilChk_ ts ty #[.pointer (some a), .string s1, .string s2] = pure (.pointer (some a)) := rfl
theorem run_info {P : Program} {t : TypeId} {i : TypeInfo} {w : World} (h : P.info? t = some i) : (typeInfo t).run P w = .ok i w := by
  unfold typeInfo; simp [h, Result.andThen]
/-- a method with a value receiver, called through a pointer: the value is loaded -/
theorem meth_val {P : Program} {t te : TypeId} {name : String} {f : FuncId} {i : TypeInfo} {m : Method} {w : World} {a : Addr} {v : Value} (k : Nat) (hi : P.info? t = some i) (hm : i.methods.find? (·.name == name) = some m) (hp : m.path = #[]) (hf : m.func = some (f, false))
    (hu : P.underlying t = some (.pointer te)) (hd : (isAgg te).run P w = .ok false w) (hc : w.cell? a = some v) :
    (method (k + 1) t (.pointer (some a)) name).run P w = .ok (f, v) w := by
  have h1 : (typeInfo t).run P w = .ok i w := run_info hi
  unfold method
  simp [h1, hm, hp, hf, follow, receiverAt, Place.get, run_underlying hu, strVal, wrapchk, asAddr, loadVar, hd, run_load, hc, Result.andThen]
theorem meth_ptr {P : Program} {t te : TypeId} {name : String} {f : FuncId} {i : TypeInfo} {m : Method} {w : World} {a : Addr} (k : Nat) (hi : P.info? t = some i) (hm : i.methods.find? (·.name == name) = some m) (hp : m.path = #[]) (hf : m.func = some (f, true))
    (hu : P.underlying t = some (.pointer te)) :
    (method (k + 1) t (.pointer (some a)) name).run P w = .ok (f, .pointer (some a)) w := by
  have h1 : (typeInfo t).run P w = .ok i w := run_info hi
  unfold method
  simp [h1, hm, hp, hf, follow, receiverAt, Place.get, run_underlying hu, Result.andThen]
theorem th_info (name : String) (f : FuncId) (b : Bool) (h : (Try.prog.info? 80).bind (fun i => (i.methods.find? (·.name == name)).map (fun m => (m.path.size, m.func))) = some (0, some (f, b))) : ∃ i m, Try.prog.info? 80 = some i ∧ i.methods.find? (·.name == name) = some m ∧ m.path = #[] ∧ m.func = some (f, b) := by
  obtain ⟨i, hi, h⟩ := Option.bind_eq_some_iff.1 h
  obtain ⟨m, hm, h⟩ := Option.map_eq_some_iff.1 h
  injection h with h1 h2
  exact ⟨i, m, hi, hm, Array.eq_empty_of_size_eq_zero h1, h2⟩
theorem agg_th (w : World) : (isAgg 84).run Try.prog w = .ok false w := by kernel_rfl
theorem m_Len {w : World} {a : Addr} {v : Value} (hc : w.cell? a = some v) (T : Nat) (h : 0 < T) : (method T 80 (.pointer (some a)) "Len").run Try.prog w = .ok (62, v) w := by
  obtain ⟨i, m, h1, h2, h3, h4⟩ := th_info "Len" 62 false (by kernel_rfl)
  obtain ⟨k, rfl⟩ : ∃ k, T = k + 1 := ⟨T - 1, by omega⟩
  exact meth_val k h1 h2 h3 h4 Try.underlying80 (agg_th w) hc
theorem m_Less {w : World} {a : Addr} {v : Value} (hc : w.cell? a = some v) (T : Nat) (h : 0 < T) : (method T 80 (.pointer (some a)) "Less").run Try.prog w = .ok (107, v) w := by
  obtain ⟨i, m, h1, h2, h3, h4⟩ := th_info "Less" 107 false (by kernel_rfl)
  obtain ⟨k, rfl⟩ : ∃ k, T = k + 1 := ⟨T - 1, by omega⟩
  exact meth_val k h1 h2 h3 h4 Try.underlying80 (agg_th w) hc
theorem m_Swap {w : World} {a : Addr} {v : Value} (hc : w.cell? a = some v) (T : Nat) (h : 0 < T) : (method T 80 (.pointer (some a)) "Swap").run Try.prog w = .ok (110, v) w := by
  obtain ⟨i, m, h1, h2, h3, h4⟩ := th_info "Swap" 110 false (by kernel_rfl)
  obtain ⟨k, rfl⟩ : ∃ k, T = k + 1 := ⟨T - 1, by omega⟩
  exact meth_val k h1 h2 h3 h4 Try.underlying80 (agg_th w) hc
theorem m_Push {w : World} (a : Addr) (T : Nat) (h : 0 < T) : (method T 80 (.pointer (some a)) "Push").run Try.prog w = .ok (109, .pointer (some a)) w := by
  obtain ⟨i, m, h1, h2, h3, h4⟩ := th_info "Push" 109 true (by kernel_rfl)
  obtain ⟨k, rfl⟩ : ∃ k, T = k + 1 := ⟨T - 1, by omega⟩
  exact meth_ptr k h1 h2 h3 h4 Try.underlying80
theorem m_Pop {w : World} (a : Addr) (T : Nat) (h : 0 < T) : (method T 80 (.pointer (some a)) "Pop").run Try.prog w = .ok (108, .pointer (some a)) w := by
  obtain ⟨i, m, h1, h2, h3, h4⟩ := th_info "Pop" 108 true (by kernel_rfl)
  obtain ⟨k, rfl⟩ : ∃ k, T = k + 1 := ⟨T - 1, by omega⟩
  exact meth_ptr k h1 h2 h3 h4 Try.underlying80

theorem thLen_any (A : Option Addr) (n c : Nat) (w : World) : Calls Try.prog 62 #[.slice A n c] w fun e w' => e = .returned (.int .i64 n) ∧ w = w' := by
  go_enter Try.func62, Try.ntmps62
  go_wp2
  go_ret
  exact ⟨rfl, rfl⟩
abbrev snd2 : Int × Int → Int := fun p => p.2
theorem ky_snd (xs : List (Int × Int)) (k : Nat) : ky snd2 xs k = b2 xs k := rfl
set_option maxHeartbeats 400000 in
theorem thLess_any (g n c base : Nat) (xs : List (Int × Int)) (i j : Nat) (w : World) (r : Bool) (hl : xs.length = n) (ho : w.ownsRow base 82 2 (.slice (some ⟨g, 0, none⟩) n c) n (fl2 xs)) (_hn : n ≤ 1000000) (hi : i < n) (hj : j < n) (hr : decide (ky snd2 xs i < ky snd2 xs j) = r) :
    Calls Try.prog 107 #[.slice (some ⟨g, 0, none⟩) n c, .int .i64 i, .int .i64 j] w fun e w' => e = .returned (.bool r) ∧ ∃ t, w' = w.drewN t := by
  obtain ⟨_, hy⟩ := row2_a ho (k := i) (by omega)
  obtain ⟨_, hy'⟩ := row2_a ho (k := j) (by omega)
  rw [ky_snd, ky_snd] at hr
  obtain ⟨u, hu⟩ : ∃ u, b2 xs i = u := ⟨_, rfl⟩
  obtain ⟨v, hv⟩ : ∃ u, b2 xs j = u := ⟨_, rfl⟩
  rw [hu] at hy hr
  rw [hv] at hy' hr
  have hi2 : (i : Int) < (n : Int) := by omega
  have hj2 : (j : Int) < (n : Int) := by omega
  have Hr := hideIt hr
  clear hu hv hr ho hl
  go_enter Try.func107, Try.ntmps107
  go_wp2
  go_quiet (fail)
  go_wp2
  go_ret
  exact ⟨ret_bool Hr.out, _, rfl⟩
set_option maxHeartbeats 1000000 in
theorem thSwap_any (g n c base : Nat) (xs : List (Int × Int)) (i j : Nat) (w : World) (hl : xs.length = n) (ho : w.ownsRow base 82 2 (.slice (some ⟨g, 0, none⟩) n c) n (fl2 xs)) (_hn : n ≤ 1000000) (hi : i < n) (hj : j < n) :
    Calls Try.prog 110 #[.slice (some ⟨g, 0, none⟩) n c, .int .i64 i, .int .i64 j] w fun e w' => e = .returned (.tuple #[]) ∧ w'.ownsRow base 82 2 (.slice (some ⟨g, 0, none⟩) n c) n (fl2 (swp xs i j)) ∧ w.grownBy w' (some g) := by
  obtain ⟨hx1, hy1⟩ := row2_a ho (k := i) (by omega)
  obtain ⟨hx2, hy2⟩ := row2_a ho (k := j) (by omega)
  have hfr := fun j => ho.frozenAt j
  have hst := row2_store (row2_store ho (k := i) (by omega) (a2 xs j) (b2 xs j)) (k := j) (by rw [List.length_set]; omega) (a2 xs i) (b2 xs i)
  have hset : (xs.set i (a2 xs j, b2 xs j)).set j (a2 xs i, b2 xs i) = swp xs i j := rfl
  rw [hset] at hst
  obtain ⟨x1, ex1⟩ : ∃ u, a2 xs i = u := ⟨_, rfl⟩
  obtain ⟨y1, ey1⟩ : ∃ u, b2 xs i = u := ⟨_, rfl⟩
  obtain ⟨x2, ex2⟩ : ∃ u, a2 xs j = u := ⟨_, rfl⟩
  obtain ⟨y2, ey2⟩ : ∃ u, b2 xs j = u := ⟨_, rfl⟩
  rw [ex1] at hx1 hst
  rw [ey1] at hy1 hst
  rw [ex2] at hx2 hst
  rw [ey2] at hy2 hst
  have hgr := only_setCell (p := ⟨g, j * 2 + 1, none⟩) (only_setCell (p := ⟨g, j * 2, none⟩) (only_setCell (p := ⟨g, i * 2 + 1, none⟩) (only_setCell (p := ⟨g, i * 2, none⟩) (World.grownBy.refl w (some g)) (.inl rfl) (.int .i64 x2)) (.inl rfl) (.int .i64 y2)) (.inl rfl) (.int .i64 x1)) (.inl rfl) (.int .i64 y1)
  have hi2 : (i : Int) < (n : Int) := by omega
  have hj2 : (j : Int) < (n : Int) := by omega
  by_cases e : i = j
  · subst e
    obtain rfl : x1 = x2 := ex1.symm.trans ex2
    obtain rfl : y1 = y2 := ey1.symm.trans ey2
    clear hset ex1 ex2 ey1 ey2 hl
    go_enter Try.func110, Try.ntmps110
    go_wp2
    go_region
    go_wp2
    go_end0
    exact ⟨rfl, hst, hgr.os, hgr.tape, hgr.output, hgr.size, hgr.block⟩
  · clear hset ex1 ex2 ey1 ey2 hl
    go_enter Try.func110, Try.ntmps110
    go_wp2
    go_region
    go_wp2
    go_end0
    exact ⟨rfl, hst, hgr.os, hgr.tape, hgr.output, hgr.size, hgr.block⟩
end Go.Proofs.Ytdnjeahbnidefaa

/- Walks: the heap of towns: its own Push and Pop. -/
namespace Go.Proofs.Ytdnjeahbnidefaa
open Go.RowKit

/-- append as one step of a region; where the new row lies -/
theorem step_append_at {P : Program} {w : World} {ops : Array Oper} {o : Oper} {a : Act} {K : Act → World → Prop} {Q : Exit → Act → World → Prop} {E : Prop} (hgd : o.guard = none) (s x : Operand) (t : TypeId)
    (ho : o.op = .call { callee := .builtin .append, args := #[s, x], argTypes := #[t, t] })
    (base : Nat) (e : TypeId) (i : TypeInfo) (z : Value) (size bytes : Nat) (ht : P.underlying t = some (.slice e)) (hi : P.info? e = some i) (hz : i.zero = some z)
    (hsize : i.size = size) (hby : i.bytes = bytes) (hzs : z.cells.size = size) (hsz : 0 < size)
    (v : Value) (n : Nat) (xs : List Value) (hs : a.eval s = v) (hown : w.ownsRow base e size v n xs)
    (ad : Addr) (m c : Nat) (news : List Value) (hx : a.eval x = .slice (some ad) m c) (hl : news.length = m * size) (hnews : ∀ j u, news[j]? = some u → w.cell? (ad.add j) = some u) (h1 : ∀ u ∈ news, u.oneCell' = true)
    (h63 : n + m ≤ maxLen) (hbytes : (n + m) * bytes ≤ 140737488355328) (hbase : base ≤ w.heap.size) (N : Nat) (hN : n + m = N)
    (h : ∀ A cap w', w'.ownsRow base e size (.slice A N cap) N (xs ++ news) → w.grownBy w' v.ownBlock → ((Value.slice A N cap).ownBlock = v.ownBlock ∨ (Value.slice A N cap).ownBlock = some w.heap.size) → K (a.put o.dst (.slice A N cap)) w') :
    if Region.wanted o (yielded ops a.tmps) = true then Oper.wp P o a w K Q else E := by
  subst hN
  have hw : Region.wanted o (yielded ops a.tmps) = true := by simp [Region.wanted, hgd]
  rw [if_pos hw]
  obtain ⟨v', w', hr, h2, h3, _, h5⟩ := run_append_own_at (P := P) w base t o.type e i z size bytes ht hi hz hsize hby hzs hsz v n xs hown ad m c news hl hnews h1 h63 hbytes hbase
  obtain ⟨A, cap, rfl⟩ := own_form h2
  unfold Oper.wp execOp
  simp only [ho, resolve, invoke, builtin, Sem.run_bind, Sem.run_pure, Result.andThen_ok, List.map_toArray, List.map_cons, List.map_nil, hs, hx, hr]
  exact h A cap w' h2 h3 h5
/-- the heap's variable lies in block h, its towns in block g -/
def HP (w : World) (h base g n c : Nat) (xs : List (Int × Int)) : Prop :=
  w.heap[h]? = some (.cells #[.slice (some ⟨g, 0, none⟩) n c] 84) ∧ xs.length = n ∧ w.ownsRow base 82 2 (.slice (some ⟨g, 0, none⟩) n c) n (fl2 xs)
/-- nothing but the heap's variable and its towns has turned -/
def HStep (w w' : World) (h g g' : Nat) : Prop := (w'.os = w.os ∧ w'.tape = w.tape ∧ w'.output = w.output) ∧ w.heap.size ≤ w'.heap.size ∧ (∀ k, k < w.heap.size → k ≠ h → k ≠ g → w'.heap[k]? = w.heap[k]?) ∧ (g' = g ∨ w.heap.size ≤ g')
theorem HStep.refl (w : World) (h g : Nat) : HStep w w h g g := ⟨⟨rfl, rfl, rfl⟩, Nat.le_refl _, fun _ _ _ _ => rfl, .inl rfl⟩
theorem HStep.trans {w w' w'' : World} {h g g' g'' : Nat} (a : HStep w w' h g g') (b : HStep w' w'' h g' g'') : HStep w w'' h g g'' := by
  obtain ⟨⟨a1, a2, a3⟩, a4, a5, a6⟩ := a
  obtain ⟨⟨b1, b2, b3⟩, b4, b5, b6⟩ := b
  refine ⟨⟨b1.trans a1, b2.trans a2, b3.trans a3⟩, Nat.le_trans a4 b4, fun k hk h1 h2 => ?_, ?_⟩
  · rw [b5 k (by omega) h1 (by omega), a5 k hk h1 h2]
  · omega
theorem HStep.of_grown {w w' : World} {g : Nat} (h : Nat) (hg : w.grownBy w' (some g)) : HStep w w' h g g :=
  ⟨⟨hg.os, hg.tape, hg.output⟩, hg.size, fun k hk _ h2 => hg.block k hk (fun e => h2 (Option.some.inj e)), .inl rfl⟩
theorem HStep.below {w w' w0 : World} {h g g' : Nat} (a : HStep w w' h g g') (hb : Below w0.heap.size w0 w) (hh : w0.heap.size ≤ h) (hg : w0.heap.size ≤ g) : Below w0.heap.size w0 w' := by
  obtain ⟨⟨a1, a2, a3⟩, a4, a5, a6⟩ := a
  exact ⟨a1.trans hb.os, a2.trans hb.tape, a3.trans hb.output, Nat.le_trans hb.size a4, fun k hk => (a5 k (Nat.lt_of_lt_of_le hk hb.size) (by omega) (by omega)).trans (hb.block k hk)⟩
theorem HP.cell {w : World} {h base g n c : Nat} {xs : List (Int × Int)} (hp : HP w h base g n c xs) : w.cell? ⟨h, 0, none⟩ = some (.slice (some ⟨g, 0, none⟩) n c) := cell_of_row w h 0 _ _ _ hp.1
theorem HP.ne {w : World} {h base g n c : Nat} {xs : List (Int × Int)} (hp : HP w h base g n c xs) : h ≠ g := fun e => by
  obtain ⟨h1, _, h3⟩ := hp
  rcases h3.2 with ⟨hv, _⟩ | ⟨g', c', cur, hv, _, hh, _⟩
  · cases hv
  · simp only [Value.slice.injEq, Option.some.injEq, Addr.mk.injEq] at hv
    rw [← hv.1.1, ← e, h1] at hh
    injection hh with hh
    injection hh with _ hh
    cases hh
theorem HP.drewN {w : World} {h base g n c : Nat} {xs : List (Int × Int)} (hp : HP w h base g n c xs) (t : Nat) : HP (w.drewN t) h base g n c xs := hp
theorem HP.base {w : World} {h base g n c : Nat} {xs : List (Int × Int)} (hp : HP w h base g n c xs) : base ≤ g ∧ g < w.heap.size := hp.2.2.lt g rfl
theorem HP.lt {w : World} {h base g n c : Nat} {xs : List (Int × Int)} (hp : HP w h base g n c xs) : h < w.heap.size := (Array.getElem?_eq_some_iff.1 hp.1).1
/-- the towns' row is turned -/
theorem HP.row {w w' : World} {h base g n c : Nat} {xs ys : List (Int × Int)} (hp : HP w h base g n c xs) (hg : w.grownBy w' (some g)) (hl : ys.length = n) (ho : w'.ownsRow base 82 2 (.slice (some ⟨g, 0, none⟩) n c) n (fl2 ys)) : HP w' h base g n c ys :=
  ⟨(hg.block h hp.lt (fun e => hp.ne (Option.some.inj e))).trans hp.1, hl, ho⟩
theorem HP.kept {w w' : World} {h base g n c : Nat} {xs : List (Int × Int)} (hp : HP w h base g n c xs) {row : Option Nat} (hg : w.grownBy w' row) (h1 : row ≠ some h) (h2 : row ≠ some g) : HP w' h base g n c xs :=
  ⟨(hg.block h hp.lt (fun e => h1 e.symm)).trans hp.1, hp.2.1, hp.2.2.kept hg (.inr (fun e => h2 e.symm))⟩
theorem grown_setH (w : World) (b i : Nat) (v : Value) : w.grownBy (w.setCell ⟨b, i, none⟩ v) (some b) := only_setCell (World.grownBy.refl w (some b)) (p := ⟨b, i, none⟩) (.inl rfl) v
theorem info_townAt : (Try.prog.info? 82).map (fun i => (i.zero, i.size, i.bytes)) = some (some (.agg #[.int .i64 0, .int .i64 0]), 2, 16) := by kernel_rfl
theorem assert_town (x y : Int) (w : World) : (Instr.typeAssert (.iface 82 (.agg #[.int .i64 x, .int .i64 y])) 20 82 false).run Try.prog w = .ok (.agg #[.int .i64 x, .int .i64 y]) w := by kernel_rfl

theorem HP.mid {w w1 : World} {h base g n c : Nat} {xs : List (Int × Int)} {o : Obj} (hp : HP w h base g n c xs) (hg : (w.alloc o).grownBy w1 (some g)) : w1.heap[h]? = some (.cells #[.slice (some ⟨g, 0, none⟩) n c] 84) :=
  (hg.block h (by have := hp.lt; simp; omega) (fun e => hp.ne (Option.some.inj e))).trans ((Below.heap_alloc w o h hp.lt).trans hp.1)
/-- behind a store into the heap's variable -/
theorem HP.pushed {w w1 w2 : World} {h base g n c A c' : Nat} {xs ys : List (Int × Int)} {o : Obj} (hp : HP w h base g n c xs) (hg : (w.alloc o).grownBy w1 (some g)) (hy : ys.length = n + 1)
    (ho : w1.ownsRow base 82 2 (.slice (some ⟨A, 0, none⟩) (n + 1) c') (n + 1) (fl2 ys)) (e : w2 = w1.setCell ⟨h, 0, none⟩ (.slice (some ⟨A, 0, none⟩) (n + 1) c')) (hA : A = g ∨ w.heap.size ≤ A) : HP w2 h base A (n + 1) c' ys ∧ HStep w w2 h g A := by
  subst e
  have hs := hg.size
  simp only [World.size_alloc] at hs
  have hh1 : w1.heap[h]? = some (.cells #[.slice (some ⟨g, 0, none⟩) n c] 84) := (hg.block h (by have := hp.lt; simp; omega) (fun e => hp.ne (Option.some.inj e))).trans ((Below.heap_alloc w o h hp.lt).trans hp.1)
  have hAh : h ≠ A := fun e => by
    rcases hA with c | c
    · exact hp.ne (e.trans c)
    · have := hp.lt; omega
  refine ⟨⟨heap_setCell_same w1 h 0 _ _ _ hh1, hy, ho.kept (grown_setH w1 h 0 _) (.inr (fun e => hAh (Option.some.inj e).symm))⟩, ⟨hg.os, hg.tape, hg.output⟩, by simp; omega, fun k hk h1 h2 => ?_, hA⟩
  rw [Below.heap_setCell w1 _ _ k (fun e => h1 e), hg.block k (by simp; omega) (fun e => h2 (Option.some.inj e)), Below.heap_alloc w o k hk]
end Go.Proofs.Ytdnjeahbnidefaa

/- Walks: the heap of towns: its own Push and Pop, walked. -/
namespace Go.Proofs.Ytdnjeahbnidefaa
open Go.RowKit

theorem own_drewH {w : World} {base t size n : Nat} {v : Value} {xs : List Value} (h : w.ownsRow base t size v n xs) : w.drew.ownsRow base t size v n xs := h
theorem undrew {w w' : World} {r : Option Nat} (h : w.drew.grownBy w' r) : w.grownBy w' r := ⟨h.os, h.tape, h.output, h.size, h.block⟩
set_option maxRecDepth 100000 in
set_option maxHeartbeats 1000000 in
theorem thPush_any (h base g n c : Nat) (xs : List (Int × Int)) (x y : Int) (w : World) (hp : HP w h base g n c xs) (hn : n ≤ 1000000) :
    Calls Try.prog 109 #[.pointer (some ⟨h, 0, none⟩), .iface 82 (.agg #[.int .i64 x, .int .i64 y])] w fun e w' => e = .returned (.tuple #[]) ∧ ∃ g' c', HP w' h base g' (n + 1) c' (xs ++ [(x, y)]) ∧ HStep w w' h g g' := by
  obtain ⟨i0, hi, hz0, hz1, hz2⟩ := info_parts info_townAt
  have hta := assert_town x y
  have hcell := hp.cell
  have hbase := hp.base
  have hlt := hp.lt
  have hfr : w.frozen? ⟨h, 0, none⟩ = false := by simp [World.frozen?, hp.1]
  have Hln := hideIt (show (xs ++ [(x, y)]).length = n + 1 by rw [List.length_append, hp.2.1]; rfl)
  have Hfl := hideIt (fl2_snoc xs (x, y))
  have Hp : Hid (HP w h base g n c xs) := hideIt hp
  have hown := hp.2.2
  clear hp
  go_enter Try.func109, Try.ntmps109
  go_wp2
  go_region_law (first
    | (refine step_append_at rfl (.tmp 7) (.tmp 10) 84 (by rfl) base 82 i0 _ 2 16 Try.underlying84 hi hz0 hz1 hz2 rfl (by omega) _ n (fl2 xs) (by rfl) (hown.alloc _) ⟨w.heap.size, 0, none⟩ 1 1 [.int .i64 x, .int .i64 y] (by rfl) rfl (news_at (cs := #[.int .i64 x, .int .i64 y]) (t := 82) (heap_alloc_new w _)) (by simp [Value.oneCell']) (by unfold maxLen; omega) (by omega) (by simp; omega) (n + 1) rfl ?_
       intro A1 c1 w1 hown1 hgrow1 hwhere
       have hmid := Hp.out.mid (hgrow1)
       have hc1 : w1.cell? ⟨h, 0, none⟩ = some (.slice (some ⟨g, 0, none⟩) n c) := cell_of_row w1 h 0 _ _ _ hmid
       have hf1 : w1.frozen? ⟨h, 0, none⟩ = false := by simp [World.frozen?, hmid]
       clear hmid)
    | (refine step_append_at rfl (.tmp 7) (.tmp 10) 84 (by rfl) base 82 i0 _ 2 16 Try.underlying84 hi hz0 hz1 hz2 rfl (by omega) _ n (fl2 xs) (by rfl) (own_drewH (hown.alloc (.cells #[.int .i64 x, .int .i64 y] 82))) ⟨w.heap.size, 0, none⟩ 1 1 [.int .i64 x, .int .i64 y] (by rfl) rfl (news_at (w := (w.alloc (.cells #[.int .i64 x, .int .i64 y] 82)).drew) (cs := #[.int .i64 x, .int .i64 y]) (t := 82) (heap_alloc_new w _)) (by simp [Value.oneCell']) (by unfold maxLen; omega) (by omega) (by simp; omega) (n + 1) rfl ?_
       intro A1 c1 w1 hown1 hgrow1 hwhere
       have hmid := Hp.out.mid (undrew hgrow1)
       have hc1 : w1.cell? ⟨h, 0, none⟩ = some (.slice (some ⟨g, 0, none⟩) n c) := cell_of_row w1 h 0 _ _ _ hmid
       have hf1 : w1.frozen? ⟨h, 0, none⟩ = false := by simp [World.frozen?, hmid]
       clear hmid))
  all_goals
    obtain ⟨b1, rfl, _, _⟩ := own_some hown1 (by omega)
    have hA : b1 = g ∨ w.heap.size ≤ b1 := by
      rcases hwhere with e | e
      · exact .inl (Option.some.inj e)
      · have e2 := Option.some.inj e
        simp at e2
        omega
    have hown2 : w1.ownsRow base 82 2 (.slice (some ⟨b1, 0, none⟩) (n + 1) c1) (n + 1) (fl2 (xs ++ [(x, y)])) := by rw [Hfl.out]; exact hown1
    have hres := Hp.out.pushed (w2 := w1.setCell ⟨h, 0, none⟩ (.slice (some ⟨b1, 0, none⟩) (n + 1) c1)) (by first | exact hgrow1 | exact undrew hgrow1) Hln.out hown2 rfl hA
    clear hwhere hown1 hown2 hgrow1
    go_end0
    exact ⟨rfl, b1, c1, hres⟩
end Go.Proofs.Ytdnjeahbnidefaa

/- Walks: the heap of towns: its own Pop. -/
namespace Go.Proofs.Ytdnjeahbnidefaa
open Go.RowKit

theorem fl2_take_eq (xs : List (Int × Int)) (n : Nat) : fl2 (xs.take n) = (fl2 xs).take (n * 2) := by
  induction xs generalizing n with
  | nil => simp [fl2]
  | cons x xs ih =>
    cases n with
    | zero => simp [fl2]
    | succ n =>
      rw [List.take_succ_cons, show (n + 1) * 2 = n * 2 + 1 + 1 by omega]
      show Value.int .i64 x.1 :: Value.int .i64 x.2 :: fl2 (xs.take n) = List.take (n * 2 + 1 + 1) (Value.int .i64 x.1 :: Value.int .i64 x.2 :: fl2 xs)
      rw [List.take_succ_cons, List.take_succ_cons, ih n]
theorem own_short {w : World} {base t g n c : Nat} {xs : List (Int × Int)} (h : w.ownsRow base t 2 (.slice (some ⟨g, 0, none⟩) (n + 1) c) (n + 1) (fl2 xs)) : w.ownsRow base t 2 (.slice (some ⟨g, 0, none⟩) n c) n (fl2 (xs.take n)) := by
  obtain ⟨h1, h2⟩ := h
  rw [fl2_len] at h1
  refine ⟨by rw [fl2_len, List.length_take]; omega, ?_⟩
  rcases h2 with ⟨hv, _⟩ | ⟨g', c', cur, hv, hb, hh, hn, hc, hs, ht⟩
  · cases hv
  · simp only [Value.slice.injEq, Option.some.injEq, Addr.mk.injEq] at hv
    obtain ⟨⟨rfl, _⟩, _, rfl⟩ := hv
    refine .inr ⟨g, c, cur, rfl, hb, hh, by omega, hc, hs, ?_⟩
    rw [fl2_take_eq, ← ht, List.take_take, Nat.min_eq_left (by omega)]
theorem HP.popped {w : World} {h base g n c : Nat} {xs : List (Int × Int)} (hp : HP w h base g (n + 1) c xs) (o : Obj) : HP ((w.setCell ⟨h, 0, none⟩ (.slice (some ⟨g, 0, none⟩) n c)).alloc o) h base g n c (xs.take n) ∧ HStep w ((w.setCell ⟨h, 0, none⟩ (.slice (some ⟨g, 0, none⟩) n c)).alloc o) h g g := by
  have hne := hp.ne
  have hs : h < (w.setCell ⟨h, 0, none⟩ (.slice (some ⟨g, 0, none⟩) n c)).heap.size := by have := hp.lt; simpa using this
  refine ⟨⟨(Below.heap_alloc _ o h hs).trans (heap_setCell_same w h 0 _ _ _ hp.1), by rw [List.length_take, hp.2.1]; omega, ((own_short hp.2.2).kept (grown_setH w h 0 _) (.inr (fun e => hne (Option.some.inj e).symm))).alloc o⟩, ⟨rfl, rfl, rfl⟩, by simp, fun k hk h1 h2 => ?_, .inl rfl⟩
  rw [Below.heap_alloc _ o k (by simpa using hk), Below.heap_setCell _ _ _ k (fun e => h1 e)]
set_option maxRecDepth 100000 in
set_option maxHeartbeats 1000000 in
theorem thPop_any (h base g n c : Nat) (xs : List (Int × Int)) (w : World) (hp : HP w h base g (n + 1) c xs) (hn : n ≤ 1000000) :
    Calls Try.prog 108 #[.pointer (some ⟨h, 0, none⟩)] w fun e w' => e = .returned (.iface 82 (.agg #[.int .i64 (a2 xs n), .int .i64 (b2 xs n)])) ∧ HP w' h base g n c (xs.take n) ∧ HStep w w' h g g := by
  have hcell := hp.cell
  obtain ⟨hx, hy⟩ := row2_a hp.2.2 (k := n) (by rw [hp.2.1]; omega)
  have hfr : w.frozen? ⟨h, 0, none⟩ = false := by simp [World.frozen?, hp.1]
  have hlt := hp.lt
  have hcap : n + 1 ≤ c := own_cap hp.2.2
  obtain ⟨x, ex⟩ : ∃ u, a2 xs n = u := ⟨_, rfl⟩
  obtain ⟨y, ey⟩ : ∃ u, b2 xs n = u := ⟨_, rfl⟩
  rw [ex] at hx ⊢
  rw [ey] at hy ⊢
  have Hp : Hid (HP w h base g (n + 1) c xs) := hideIt hp
  have hcA : ∀ o, (w.alloc o).cell? ⟨h, 0, none⟩ = some (.slice (some ⟨g, 0, none⟩) (n + 1) c) := fun o => (World.cell?_alloc_some w _ o (by rw [hcell]; rfl)).trans hcell
  have hsub : IntKind.i64.wrap ((n : Int) + 1 - 1) = (n : Int) := by rw [show (n : Int) + 1 - 1 = n by omega]; exact IntWalk.i64_in _ (by omega)
  have hsub2 : IntKind.i64.wrap (n : Int) = (n : Int) := IntWalk.i64_in _ (by omega)
  have hxA := fun o => (World.cell?_alloc_some w ⟨g, n * 2, none⟩ o (by rw [hx]; rfl)).trans hx
  have hyA := fun o => (World.cell?_alloc_some w ⟨g, n * 2 + 1, none⟩ o (by rw [hy]; rfl)).trans hy
  have hx1 := hxA (.cells #[.int .i64 0, .int .i64 0] 82)
  have hy1 := hyA (.cells #[.int .i64 0, .int .i64 0] 82)
  have hc1 := hcA (.cells #[.int .i64 0, .int .i64 0] 82)
  have hc2 := hcA (.cells #[.int .i64 x, .int .i64 y] 82)
  have hnn : (n : Int) < (n : Int) + 1 := by omega
  clear hp ex ey hxA hyA hcA
  go_enter Try.func108, Try.ntmps108
  go_wp2
  go_region
  have hfrA : (w.alloc (.cells #[.int .i64 x, .int .i64 y] 82)).frozen? ⟨h, 0, none⟩ = false := by simp [World.frozen?, (Below.heap_alloc w _ h hlt).trans Hp.out.1]
  clear hx hy hx1 hy1 hc1
  go_wp2
  go_region
  have hne : w.heap.size ≠ h := by omega
  have hne2 : h ≠ w.heap.size := by omega
  have hres := Hp.out.popped (.cells #[.int .i64 x, .int .i64 y] 82)
  go_wp2
  go_ret
  exact ⟨rfl, hres.1, hres.2⟩
end Go.Proofs.Ytdnjeahbnidefaa

/- Walks: container/heap at the heap of towns: up, down. -/
namespace Go.Proofs.Ytdnjeahbnidefaa
open Go.RowKit

/-- the towns lie in another order -/
def Turned (w w' : World) (h base g n c : Nat) (xs ys : List (Int × Int)) : Prop := HP w' h base g n c ys ∧ (∀ x, x ∈ ys ↔ x ∈ xs) ∧ w.grownBy w' (some g)
theorem Turned.refl {w : World} {h base g n c : Nat} {xs : List (Int × Int)} (hp : HP w h base g n c xs) : Turned w w h base g n c xs xs := ⟨hp, fun _ => Iff.rfl, World.grownBy.refl _ _⟩
theorem grown_drewR {w w' : World} {r : Option Nat} (h : w.grownBy w' r) (n : Nat) : w.grownBy (w'.drewN n) r := ⟨h.os, h.tape, h.output, h.size, h.block⟩
theorem grown_sameR {w w1 w2 : World} {g : Nat} (h : w.grownBy w1 (some g)) (h2 : w1.grownBy w2 (some g)) : w.grownBy w2 (some g) :=
  ⟨h2.os.trans h.os, h2.tape.trans h.tape, h2.output.trans h.output, Nat.le_trans h.size h2.size, fun k hk hne => (h2.block k (Nat.lt_of_lt_of_le hk h.size) hne).trans (h.block k hk hne)⟩
theorem undrewN {w w' : World} {r : Option Nat} {n : Nat} (h : (w.drewN n).grownBy w' r) : w.grownBy w' r := ⟨h.os, h.tape, h.output, h.size, h.block⟩
theorem Turned.drewN {w w' : World} {h base g n c : Nat} {xs ys : List (Int × Int)} (t : Turned w w' h base g n c xs ys) (k : Nat) : Turned w (w'.drewN k) h base g n c xs ys := ⟨t.1.drewN k, t.2.1, grown_drewR t.2.2 k⟩
theorem Turned.swap {w w' w'' : World} {h base g n c i j : Nat} {xs ys : List (Int × Int)} (t : Turned w w' h base g n c xs ys) (hi : i < n) (hj : j < n) (ho : w''.ownsRow base 82 2 (.slice (some ⟨g, 0, none⟩) n c) n (fl2 (swp ys i j))) (hg : w'.grownBy w'' (some g)) : Turned w w'' h base g n c xs (swp ys i j) := by
  have hl := t.1.2.1
  exact ⟨t.1.row hg (by rw [swp_len]; exact hl) ho, fun x => (mem_swp (by omega) (by omega) x).trans (t.2.1 x), grown_sameR t.2.2 hg⟩

set_option maxRecDepth 100000 in
set_option maxHeartbeats 1000000 in
theorem heapUp_any (h base g n c j : Nat) (xs : List (Int × Int)) (w : World) (hp : HP w h base g n c xs) (hn : n ≤ 1000000) (hj : j < n) (hu : HeapUp snd2 xs n j) :
    Calls Try.prog 81 #[.iface 80 (.pointer (some ⟨h, 0, none⟩)), .int .i64 j] w fun e w' => e = .returned (.tuple #[]) ∧ ∃ ys, Turned w w' h base g n c xs ys ∧ HeapN snd2 ys n := by
  go_enter Try.func81, Try.ntmps81
  go_wp2
  go_loopw [1] (fun i wr => ∃ (k : Nat) (ys : List (Int × Int)), i = .int .i64 k ∧ k < n ∧ HeapUp snd2 ys n k ∧ Turned w wr h base g n c xs ys) (fun i _ => (intOf i).toNat)
  case atStart => exact ⟨j, xs, rfl, hj, hu, Turned.refl hp⟩
  case round =>
    obtain ⟨k, ys, rfl, hk, huk, ht⟩ := hrel
    have Huk : Hid (HeapUp snd2 ys n k) := hideIt huk
    have Ht : Hid (Turned w wr h base g n c xs ys) := hideIt ht
    have hcell := ht.1.cell
    have hl := hideIt ht.1.2.1
    have ho := ht.1.2.2
    clear hp hu huk ht
    by_cases hk0 : k = 0
    · subst hk0
      go_wp2
      go_end0
      exact ⟨rfl, ys, Ht.out, Huk.out.top⟩
    · obtain ⟨p, rfl⟩ : ∃ p, k = p + 1 := ⟨k - 1, by omega⟩
      obtain ⟨q, hq, hq2⟩ : ∃ q : Nat, (p : Int) / 2 = q ∧ q = (p + 1 - 1) / 2 := ⟨p / 2, by omega, by omega⟩
      have Hq2 := hideIt hq2
      have hqp : ((q : Int) == (p : Int) + 1) = false := by simp; omega
      have hqn : q < n := by omega
      have hle := m_Less hcell
      obtain ⟨r, hr⟩ : ∃ r, decide (ky snd2 ys (p + 1) < ky snd2 ys q) = r := ⟨_, rfl⟩
      have Hr := hideIt hr
      clear hq2 hk0 hr
      go_wp2_with fail
      have harg : (p : Int) + 1 = ((p + 1 : Nat) : Int) := by omega
      rw [harg]
      refine (thLess_any g n c base ys (p + 1) q _ r hl.out ho hn hk hqn Hr.out).mono ?_
      rintro e w1 ⟨rfl, t, rfl⟩
      rw [← harg]
      clear harg
      cases r
      · have hstop := Huk.out.stop (by rw [← Hq2.out]; have := Hr.out; rw [decide_eq_false_iff_not] at this; omega)
        go_wp2
        go_end0
        exact ⟨rfl, ys, Ht.out.drewN _, hstop⟩
      · have hstep := Huk.out.step hl.out (by omega) hk Hq2.out (by have := Hr.out; rw [decide_eq_true_eq] at this; exact this)
        have hsw := m_Swap (w := wr.drewN t) hcell
        go_wp2_with fail
        have harg : (p : Int) + 1 = ((p + 1 : Nat) : Int) := by omega
        rw [harg]
        refine (thSwap_any g n c base ys q (p + 1) (wr.drewN t) hl.out ho hn hqn hk).mono ?_
        rintro e w2 ⟨rfl, ho2, hg2⟩
        have ht2 := Ht.out.swap hqn hk ho2 (undrewN hg2)
        clear harg ho2 hg2
        go_wp2
        go_roundw
        case rel => exact ⟨q, _, rfl, hqn, hstep, ht2⟩
        case measure => simp [intOf]; omega
/-- what lies behind an index lies as it lay -/
def Rest (xs ys : List (Int × Int)) (m : Nat) : Prop := ∀ k, m ≤ k → ys.getD k (0, 0) = xs.getD k (0, 0)
theorem Rest.swap {xs ys : List (Int × Int)} {m i j : Nat} (r : Rest xs ys m) (hi : i < m) (hj : j < m) (hl : m ≤ ys.length) : Rest xs (swp ys i j) m := fun k hk => by
  rw [swp_at (by omega) (by omega), if_neg (by omega), if_neg (by omega)]
  exact r k hk
/-- what down leaves -/
def DownEnd (w : World) (h base g n c m : Nat) (xs : List (Int × Int)) (e : Ending) (w' : World) : Prop := ∃ v ys, e = .returned v ∧ Turned w w' h base g n c xs ys ∧ HeapN snd2 ys m ∧ Rest xs ys m
theorem child_of {c i : Nat} (h0 : 0 < c) (h : (c - 1) / 2 = i) : c = 2 * i + 1 ∨ c = 2 * i + 2 := by omega

set_option maxRecDepth 100000 in
set_option maxHeartbeats 4000000 in
theorem heapDown_any (h base g n c m : Nat) (xs : List (Int × Int)) (w : World) (hp : HP w h base g n c xs) (hn : n ≤ 1000000) (hmn : m ≤ n) (hd : HeapDn snd2 xs m 0) :
    Calls Try.prog 80 #[.iface 80 (.pointer (some ⟨h, 0, none⟩)), .int .i64 0, .int .i64 m] w (DownEnd w h base g n c m xs) := by
  go_enter Try.func80, Try.ntmps80
  go_wp2
  go_loopw [7] (fun i wr => ∃ (k : Nat) (ys : List (Int × Int)), i = .int .i64 k ∧ k ≤ n ∧ HeapDn snd2 ys m k ∧ Turned w wr h base g n c xs ys ∧ Rest xs ys m) (fun i _ => n + 1 - (intOf i).toNat)
  case atStart => exact ⟨0, xs, rfl, Nat.zero_le _, hd, Turned.refl hp, fun _ _ => rfl⟩
  case round =>
    obtain ⟨k, ys, rfl, hk, hdk, ht, hrest⟩ := hrel
    have Hdk : Hid (HeapDn snd2 ys m k) := hideIt hdk
    have Ht : Hid (Turned w wr h base g n c xs ys) := hideIt ht
    have Hrest : Hid (Rest xs ys m) := hideIt hrest
    have hcell := ht.1.cell
    have hl := hideIt ht.1.2.1
    have ho := ht.1.2.2
    clear hp hd hdk ht hrest
    by_cases hleaf : m ≤ 2 * k + 1
    · have hstop := Hdk.out.leaf hleaf
      go_wp2
      go_ret
      exact ⟨_, ys, rfl, Ht.out, hstop, Hrest.out⟩
    have hj1 : 2 * k + 1 < m := by omega
    have hj1n : 2 * k + 1 < n := by omega
    have hkn : k < n := by omega
    have c1 : (2 * (k : Int) + 1) = ((2 * k + 1 : Nat) : Int) := by omega
    have c2 : (2 * (k : Int) + 1 + 1) = ((2 * k + 2 : Nat) : Int) := by omega
    have C1 := hideIt c1
    have C2 := hideIt c2
    have hle := m_Less hcell
    clear hleaf c1 c2
    by_cases hj2 : 2 * k + 2 < m
    · obtain ⟨r, hr⟩ : ∃ r, decide (ky snd2 ys (2 * k + 2) < ky snd2 ys (2 * k + 1)) = r := ⟨_, rfl⟩
      have Hr := hideIt hr
      have hj2' : 2 * (k : Int) + 1 + 1 < (m : Int) := by omega
      clear hr
      go_wp2_with fail
      rw [C2.out, C1.out]
      refine (thLess_any g n c base ys (2 * k + 2) (2 * k + 1) _ r hl.out ho hn (by omega) hj1n Hr.out).mono ?_
      rintro e w1 ⟨rfl, t, rfl⟩
      rw [← C2.out, ← C1.out]
      have hle1 := m_Less (w := wr.drewN t) hcell
      cases r
      · obtain ⟨r2, hr2⟩ : ∃ r, decide (ky snd2 ys (2 * k + 1) < ky snd2 ys k) = r := ⟨_, rfl⟩
        have Hr2 := hideIt hr2
        clear hr2
        have hmin : ∀ c, 0 < c → c < m → (c - 1) / 2 = k → ky snd2 ys (2 * k + 1) ≤ ky snd2 ys c := fun c c0 cm ck => by
          rcases child_of c0 ck with rfl | rfl
          · exact Int.le_refl _
          · have h2 := Hr.out
            rw [decide_eq_false_iff_not] at h2
            omega
        have Hmin : Hid (∀ c, 0 < c → c < m → (c - 1) / 2 = k → ky snd2 ys (2 * k + 1) ≤ ky snd2 ys c) := hideIt hmin
        clear hmin
        go_wp2_with fail
        rw [C1.out]
        refine (thLess_any g n c base ys (2 * k + 1) k (wr.drewN t) r2 hl.out ho hn (by omega) hkn Hr2.out).mono ?_
        rintro e w2 ⟨rfl, t2, rfl⟩
        rw [← C1.out]
        have hsw := m_Swap (w := wr.drewN (t + t2)) hcell
        cases r2
        · have hstop : HeapN snd2 ys m := Hdk.out.stop (fun c c0 cm ck => by
            have h1 := Hmin.out c c0 cm ck
            have h2 := Hr2.out
            rw [decide_eq_false_iff_not] at h2
            omega)
          have htd := Ht.out.drewN (t + t2)
          go_wp2
          go_ret
          exact ⟨_, ys, rfl, htd, hstop, Hrest.out⟩
        · have hstep := Hdk.out.step (j := 2 * k + 1) (by rw [hl.out]; exact hmn) (by omega) (by omega) (by omega) (by have h2 := Hr2.out; rw [decide_eq_true_eq] at h2; omega) Hmin.out
          go_wp2_with fail
          rw [C1.out]
          refine (thSwap_any g n c base ys k (2 * k + 1) (wr.drewN (t + t2)) hl.out ho hn hkn (by omega)).mono ?_
          rintro e w3 ⟨rfl, ho3, hg3⟩
          rw [← C1.out]
          have ht3 := Ht.out.swap hkn (by omega) ho3 (undrewN hg3)
          have hr3 := Hrest.out.swap (i := k) (j := 2 * k + 1) (by omega) (by omega) (by rw [hl.out]; exact hmn)
          clear ho3 hg3
          go_wp2
          go_roundw
          case rel => exact ⟨2 * k + 1, _, by rw [C1.out], by omega, hstep, ht3, hr3⟩
          case measure => simp [intOf]; omega
      · obtain ⟨r2, hr2⟩ : ∃ r, decide (ky snd2 ys (2 * k + 2) < ky snd2 ys k) = r := ⟨_, rfl⟩
        have Hr2 := hideIt hr2
        clear hr2
        have hmin : ∀ c, 0 < c → c < m → (c - 1) / 2 = k → ky snd2 ys (2 * k + 2) ≤ ky snd2 ys c := fun c c0 cm ck => by
          rcases child_of c0 ck with rfl | rfl
          · have h2 := Hr.out
            rw [decide_eq_true_eq] at h2
            omega
          · exact Int.le_refl _
        have Hmin : Hid (∀ c, 0 < c → c < m → (c - 1) / 2 = k → ky snd2 ys (2 * k + 2) ≤ ky snd2 ys c) := hideIt hmin
        clear hmin
        go_wp2_with fail
        rw [C2.out]
        refine (thLess_any g n c base ys (2 * k + 2) k (wr.drewN t) r2 hl.out ho hn (by omega) hkn Hr2.out).mono ?_
        rintro e w2 ⟨rfl, t2, rfl⟩
        rw [← C2.out]
        have hsw := m_Swap (w := wr.drewN (t + t2)) hcell
        cases r2
        · have hstop : HeapN snd2 ys m := Hdk.out.stop (fun c c0 cm ck => by
            have h1 := Hmin.out c c0 cm ck
            have h2 := Hr2.out
            rw [decide_eq_false_iff_not] at h2
            omega)
          have htd := Ht.out.drewN (t + t2)
          go_wp2
          go_ret
          exact ⟨_, ys, rfl, htd, hstop, Hrest.out⟩
        · have hstep := Hdk.out.step (j := 2 * k + 2) (by rw [hl.out]; exact hmn) (by omega) (by omega) (by omega) (by have h2 := Hr2.out; rw [decide_eq_true_eq] at h2; omega) Hmin.out
          go_wp2_with fail
          rw [C2.out]
          refine (thSwap_any g n c base ys k (2 * k + 2) (wr.drewN (t + t2)) hl.out ho hn hkn (by omega)).mono ?_
          rintro e w3 ⟨rfl, ho3, hg3⟩
          rw [← C2.out]
          have ht3 := Ht.out.swap hkn (by omega) ho3 (undrewN hg3)
          have hr3 := Hrest.out.swap (i := k) (j := 2 * k + 2) (by omega) (by omega) (by rw [hl.out]; exact hmn)
          clear ho3 hg3
          go_wp2
          go_roundw
          case rel => exact ⟨2 * k + 2, _, by rw [C2.out], by omega, hstep, ht3, hr3⟩
          case measure => simp [intOf]; omega
    · have hj2' : ¬ 2 * (k : Int) + 1 + 1 < (m : Int) := by omega
      obtain ⟨r2, hr2⟩ : ∃ r, decide (ky snd2 ys (2 * k + 1) < ky snd2 ys k) = r := ⟨_, rfl⟩
      have Hr2 := hideIt hr2
      clear hr2
      have hmin : ∀ c, 0 < c → c < m → (c - 1) / 2 = k → ky snd2 ys (2 * k + 1) ≤ ky snd2 ys c := fun c c0 cm ck => by
        rcases child_of c0 ck with rfl | rfl
        · exact Int.le_refl _
        · omega
      have Hmin : Hid (∀ c, 0 < c → c < m → (c - 1) / 2 = k → ky snd2 ys (2 * k + 1) ≤ ky snd2 ys c) := hideIt hmin
      clear hmin
      go_wp2_with fail
      rw [C1.out]
      refine (thLess_any g n c base ys (2 * k + 1) k wr r2 hl.out ho hn (by omega) hkn Hr2.out).mono ?_
      rintro e w2 ⟨rfl, t2, rfl⟩
      rw [← C1.out]
      have hsw := m_Swap (w := (wr).drewN t2) hcell
      cases r2
      · have hstop : HeapN snd2 ys m := Hdk.out.stop (fun c c0 cm ck => by
          have h1 := Hmin.out c c0 cm ck
          have h2 := Hr2.out
          rw [decide_eq_false_iff_not] at h2
          omega)
        have htd := Ht.out.drewN t2
        go_wp2
        go_ret
        exact ⟨_, ys, rfl, htd, hstop, Hrest.out⟩
      · have hstep := Hdk.out.step (j := 2 * k + 1) (by rw [hl.out]; exact hmn) (by omega) (by omega) (by omega) (by have h2 := Hr2.out; rw [decide_eq_true_eq] at h2; omega) Hmin.out
        go_wp2_with fail
        rw [C1.out]
        refine (thSwap_any g n c base ys k (2 * k + 1) ((wr).drewN t2) hl.out ho hn hkn (by omega)).mono ?_
        rintro e w3 ⟨rfl, ho3, hg3⟩
        rw [← C1.out]
        have ht3 := Ht.out.swap hkn (by omega) ho3 (undrewN hg3)
        have hr3 := Hrest.out.swap (i := k) (j := 2 * k + 1) (by omega) (by omega) (by rw [hl.out]; exact hmn)
        clear ho3 hg3
        go_wp2
        go_roundw
        case rel => exact ⟨2 * k + 1, _, by rw [C1.out], by omega, hstep, ht3, hr3⟩
        case measure => simp [intOf]; omega
end Go.Proofs.Ytdnjeahbnidefaa

/- Walks: container/heap at the heap of towns: Push, Pop. -/
namespace Go.Proofs.Ytdnjeahbnidefaa
open Go.RowKit

/-- what Push leaves -/
def PushEnd (w : World) (h base g n : Nat) (xs : List (Int × Int)) (z : Int × Int) (e : Ending) (w' : World) : Prop :=
  e = .returned (.tuple #[]) ∧ ∃ g' c' ys, HP w' h base g' (n + 1) c' ys ∧ HeapN snd2 ys (n + 1) ∧ (∀ u, u ∈ ys ↔ u = z ∨ u ∈ xs) ∧ HStep w w' h g g'
/-- what Pop leaves -/
def PopEnd (w : World) (h base g n c : Nat) (xs : List (Int × Int)) (e : Ending) (w' : World) : Prop :=
  ∃ z ys, e = .returned (.iface 82 (.agg #[.int .i64 z.1, .int .i64 z.2])) ∧ HP w' h base g n c ys ∧ HeapN snd2 ys n ∧ (∀ u, u ∈ xs ↔ u = z ∨ u ∈ ys) ∧ (∀ u, u ∈ xs → z.2 ≤ u.2) ∧ HStep w w' h g g
theorem PushEnd.mk {w w' : World} {h base g n g' c' : Nat} {xs ys : List (Int × Int)} {z : Int × Int} (h1 : HP w' h base g' (n + 1) c' ys) (h2 : HeapN snd2 ys (n + 1)) (h3 : ∀ u, u ∈ ys ↔ u ∈ xs ++ [z]) (h4 : HStep w w' h g g') : PushEnd w h base g n xs z (.returned (.tuple #[])) w' :=
  ⟨rfl, g', c', ys, h1, h2, fun u => (h3 u).trans (by rw [List.mem_append, List.mem_singleton, or_comm]), h4⟩

set_option maxRecDepth 100000 in
set_option maxHeartbeats 1000000 in
theorem heapPush_any (h base g n c : Nat) (xs : List (Int × Int)) (x y : Int) (w : World) (hp : HP w h base g n c xs) (hn : n < 1000000) (hh : HeapN snd2 xs n) :
    Calls Try.prog 64 #[.iface 80 (.pointer (some ⟨h, 0, none⟩)), .iface 82 (.agg #[.int .i64 x, .int .i64 y])] w (PushEnd w h base g n xs (x, y)) := by
  have Hh : Hid (HeapN snd2 xs n) := hideIt hh
  have Hl := hideIt hp.2.1
  have hm := m_Push (w := w) ⟨h, 0, none⟩
  clear hh
  go_enter Try.func64, Try.ntmps64
  go_wp2_with fail
  refine (thPush_any h base g n c xs x y w hp (by omega)).mono ?_
  rintro e w1 ⟨rfl, g1, c1, hp1, hs1⟩
  have hm1 := m_Len hp1.cell
  have Hp1 : Hid (HP w1 h base g1 (n + 1) c1 (xs ++ [(x, y)])) := hideIt hp1
  have hup := Hh.out.snoc Hl.out (x, y)
  have hsub : IntKind.i64.wrap ((n : Int) + 1 - 1) = (n : Int) := by rw [show (n : Int) + 1 - 1 = n by omega]; exact IntWalk.i64_in _ (by omega)
  have hsub2 : IntKind.i64.wrap (n : Int) = (n : Int) := IntWalk.i64_in _ (by omega)
  clear hm hp hp1
  go_wp2_with fail
  refine (thLen_any _ _ _ _).mono ?_
  rintro e w2 ⟨rfl, rfl⟩
  go_wp2_with fail
  refine (heapUp_any h base g1 (n + 1) c1 n _ _ Hp1.out (by omega) (by omega) hup).mono ?_
  rintro e w3 ⟨rfl, ys, ht, hy⟩
  have hs3 := hs1.trans (HStep.of_grown h ht.2.2)
  go_wp2
  go_end0
  exact PushEnd.mk ht.1 hy ht.2.1 hs3

set_option maxRecDepth 100000 in
set_option maxHeartbeats 1000000 in
theorem heapPop_any (h base g n c : Nat) (xs : List (Int × Int)) (w : World) (hp : HP w h base g (n + 1) c xs) (hn : n < 1000000) (hh : HeapN snd2 xs (n + 1)) :
    Calls Try.prog 63 #[.iface 80 (.pointer (some ⟨h, 0, none⟩))] w (PopEnd w h base g n c xs) := by
  have Hh : Hid (HeapN snd2 xs (n + 1)) := hideIt hh
  have Hl := hideIt hp.2.1
  have Hp : Hid (HP w h base g (n + 1) c xs) := hideIt hp
  have hm := m_Len hp.cell
  have hm2 := m_Swap hp.cell
  have hsub : IntKind.i64.wrap ((n : Int) + 1 - 1) = (n : Int) := by rw [show (n : Int) + 1 - 1 = n by omega]; exact IntWalk.i64_in _ (by omega)
  have hsub2 : IntKind.i64.wrap (n : Int) = (n : Int) := IntWalk.i64_in _ (by omega)
  clear hh hp
  go_enter Try.func63, Try.ntmps63
  go_wp2_with fail
  refine (thLen_any _ _ _ _).mono ?_
  rintro e w2 ⟨rfl, rfl⟩
  go_wp2_with fail
  refine (thSwap_any g (n + 1) c base xs 0 n w Hl.out Hp.out.2.2 (by omega) (by omega) (by omega)).mono ?_
  rintro e w1 ⟨rfl, ho1, hg1⟩
  have hp1 := Hp.out.row hg1 (by rw [swp_len]; exact Hl.out) ho1
  have hdn := Hh.out.dn Hl.out
  clear ho1 hm hm2
  go_wp2_with fail
  refine (heapDown_any h base g (n + 1) c n _ _ hp1 (by omega) (by omega) hdn).mono ?_
  rintro e w2 ⟨v, ys, rfl, ht, hy, hrest⟩
  have hm3 := m_Pop (w := w2) ⟨h, 0, none⟩
  have Ht : Hid (Turned w1 w2 h base g (n + 1) c (swp xs 0 n) ys) := hideIt ht
  have htop := hideIt (show ys.getD n (0, 0) = xs.getD 0 (0, 0) by
    rw [hrest n (Nat.le_refl _), swp_at (by rw [Hl.out]; omega) (by rw [Hl.out]; omega), if_pos rfl])
  have Hy : Hid (HeapN snd2 ys n) := hideIt hy
  clear hp1 ht hy hrest hdn
  go_wp2_with fail
  refine (thPop_any h base g n c ys _ Ht.out.1 (by omega)).mono ?_
  rintro e w3 ⟨rfl, hp3, hs3⟩
  have hs := ((HStep.of_grown h hg1).trans (HStep.of_grown h Ht.out.2.2)).trans hs3
  have hmem : ∀ u, u ∈ xs ↔ u = ys.getD n (0, 0) ∨ u ∈ ys.take n := fun u => by
    rw [← mem_take_last (Ht.out.1.2.1), Ht.out.2.1 u, mem_swp (by rw [Hl.out]; omega) (by rw [Hl.out]; omega)]
  have hleast : ∀ u, u ∈ xs → (ys.getD n (0, 0)).2 ≤ u.2 := fun u hu => by
    rw [htop.out]
    exact Hh.out.least_mem Hl.out hu
  have hheap := Hy.out.take (Nat.le_refl n)
  have Hmem : Hid (∀ u, u ∈ xs ↔ u = ys.getD n (0, 0) ∨ u ∈ ys.take n) := hideIt hmem
  have Hleast : Hid (∀ u, u ∈ xs → (ys.getD n (0, 0)).2 ≤ u.2) := hideIt hleast
  clear hm3 hmem hleast
  go_wp2
  go_ret
  exact ⟨ys.getD n (0, 0), ys.take n, rfl, hp3, hheap, Hmem.out, Hleast.out, hs⟩
end Go.Proofs.Ytdnjeahbnidefaa

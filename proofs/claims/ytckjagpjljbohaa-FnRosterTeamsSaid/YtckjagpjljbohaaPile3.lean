/- Walks: a pile of teams: pop. -/
import Derived.Test.YtckjagpjljbohaaPile2
namespace Go.Proofs.Ytckjagpjljbohaa
open Go.RowKit

/-- what pop leaves -/
def PPop (b : Bool) (w : World) (h base g n c : Nat) (xs : List (Int × Int)) (e : Ending) (w' : World) : Prop :=
  ∃ (z : Int × Int) (ys : List (Int × Int)), e = .returned (.agg #[.int .i64 z.1, .int .i64 z.2]) ∧ PL b w' h base (some g) n c ys ∧ HeapN (pkey b) ys n ∧ (∀ u, u ∈ xs ↔ u = z ∨ u ∈ ys) ∧ (∀ u, u ∈ xs → pkey b z ≤ pkey b u) ∧ PStep w w' h (some g) (some g)
/-- the last thing lies on top, and the list is one shorter -/
def popped (xs : List (Int × Int)) (n : Nat) : List (Int × Int) := (swp xs 0 n).take n
theorem HeapDn.takeN {key : Int × Int → Int} {xs : List (Int × Int)} {n i : Nat} (h : HeapDn key xs n i) (hi : i ≤ n) : HeapDn key (xs.take n) n i := by
  have e : ∀ k, k < n → ky key (xs.take n) k = ky key xs k := fun k hk => by
    unfold ky; rw [List.getD_eq_getElem?_getD, List.getElem?_take_of_lt hk, ← List.getD_eq_getElem?_getD]
  refine ⟨fun c c0 c1 c2 => ?_, fun c c0 c1 c2 c3 => ?_⟩
  · rw [e c c1, e _ (by omega)]; exact h.1 c c0 c1 c2
  · rw [e c c1, e _ (by omega)]; exact h.2 c c0 c1 c2 c3
theorem popped_dn {key : Int × Int → Int} {xs : List (Int × Int)} {n : Nat} (h : HeapN key xs (n + 1)) (hl : xs.length = n + 1) : HeapDn key (popped xs n) n 0 := (h.dn hl).takeN (Nat.zero_le _)
theorem popped_len {xs : List (Int × Int)} {n : Nat} (hl : xs.length = n + 1) : (popped xs n).length = n := by
  rw [popped, List.length_take, swp_len]; omega
theorem popped_mem {xs : List (Int × Int)} {n : Nat} (hl : xs.length = n + 1) (u : Int × Int) : u ∈ xs ↔ u = (a2 xs 0, b2 xs 0) ∨ u ∈ popped xs n := by
  rw [← mem_swp (xs := xs) (i := 0) (j := n) (by omega) (by omega), mem_take_last (n := n) (by rw [swp_len]; exact hl), swp_at (by omega) (by omega), if_pos rfl]
  rfl
theorem popped_eq {xs : List (Int × Int)} {n : Nat} : popped xs n = (xs.set 0 (a2 xs n, b2 xs n)).take n := by
  unfold popped swp
  rw [List.take_set_of_le (Nat.le_refl n)]
  rfl
theorem fl2_takeP (xs : List (Int × Int)) (n : Nat) : fl2 (xs.take n) = (fl2 xs).take (n * 2) := by
  induction xs generalizing n with
  | nil => simp [fl2]
  | cons x xs ih =>
    cases n with
    | zero => simp [fl2]
    | succ n =>
      rw [List.take_succ_cons, show (n + 1) * 2 = n * 2 + 1 + 1 by omega]
      show Value.int .i64 x.1 :: Value.int .i64 x.2 :: fl2 (xs.take n) = List.take (n * 2 + 1 + 1) (Value.int .i64 x.1 :: Value.int .i64 x.2 :: fl2 xs)
      rw [List.take_succ_cons, List.take_succ_cons, ih n]
theorem own_shortP {w : World} {base t g n c : Nat} {xs : List (Int × Int)} (h : w.ownsRow base t 2 (.slice (some ⟨g, 0, none⟩) (n + 1) c) (n + 1) (fl2 xs)) : w.ownsRow base t 2 (.slice (some ⟨g, 0, none⟩) n c) n (fl2 (xs.take n)) := by
  obtain ⟨h1, h2⟩ := h
  rw [fl2_len] at h1
  refine ⟨by rw [fl2_len, List.length_take]; omega, ?_⟩
  rcases h2 with ⟨hv, _⟩ | ⟨g', c', cur, hv, hb, hh, hn, hc, hs, ht⟩
  · cases hv
  · simp only [Value.slice.injEq, Option.some.injEq, Addr.mk.injEq] at hv
    obtain ⟨⟨rfl, _⟩, _, rfl⟩ := hv
    refine .inr ⟨g, c, cur, rfl, hb, hh, by omega, hc, hs, ?_⟩
    rw [fl2_takeP, ← ht, List.take_take, Nat.min_eq_left (by omega)]
/-- behind the store of the last thing on top and the reslicing -/
theorem PL.shorter {b : Bool} {w : World} {h base g n c : Nat} {xs : List (Int × Int)} (hp : PL b w h base (some g) (n + 1) c xs) :
    PL b (((w.setCell ⟨g, 0, none⟩ (.int .i64 (a2 xs n))).setCell ⟨g, 1, none⟩ (.int .i64 (b2 xs n))).setCell ⟨h, 0, none⟩ (.slice (some ⟨g, 0, none⟩) n c)) h base (some g) n c (popped xs n) ∧ PStep w (((w.setCell ⟨g, 0, none⟩ (.int .i64 (a2 xs n))).setCell ⟨g, 1, none⟩ (.int .i64 (b2 xs n))).setCell ⟨h, 0, none⟩ (.slice (some ⟨g, 0, none⟩) n c)) h (some g) (some g) := by
  have ho : w.ownsRow base 54 2 (.slice (some ⟨g, 0, none⟩) (n + 1) c) (n + 1) (fl2 xs) := hp.2.2
  have hl := hp.2.1
  have hne := hp.ne
  have hst := own_shortP (row2_store ho (k := 0) (by omega) (a2 xs n) (b2 xs n))
  rw [← popped_eq, Nat.zero_mul] at hst
  have hgr : w.grownBy ((w.setCell ⟨g, 0, none⟩ (.int .i64 (a2 xs n))).setCell ⟨g, 1, none⟩ (.int .i64 (b2 xs n))) (some g) := only_setCell (p := ⟨g, 1, none⟩) (only_setCell (p := ⟨g, 0, none⟩) (World.grownBy.refl w (some g)) (.inl rfl) (.int .i64 (a2 xs n))) (.inl rfl) (.int .i64 (b2 xs n))
  generalize hw1 : (w.setCell ⟨g, 0, none⟩ (.int .i64 (a2 xs n))).setCell ⟨g, 1, none⟩ (.int .i64 (b2 xs n)) = w1 at *
  have hh1 := (hgr.block h hp.lt (fun e => hne e.symm)).trans hp.1
  have hs := hgr.size
  refine ⟨⟨heap_setCell_same w1 h 0 _ _ _ hh1, popped_len hl, hst.kept (grown_setP w1 h 0 _) (.inr (fun e => hne e))⟩, ⟨hgr.os, hgr.tape, hgr.output⟩, by simp; omega, fun k hk h1 h2 => ?_, fun g' e => .inl e⟩
  rw [Below.heap_setCell w1 _ _ k (fun e => h1 e), hgr.block k hk (fun e => h2 e.symm)]
theorem swp_comm (ys : List (Int × Int)) {i j : Nat} (h : i ≠ j) : swp ys i j = swp ys j i := by
  unfold swp; rw [List.set_comm _ _ h]
theorem PCell.two {w : World} {R : Nat} {u v : Value} {t : TypeId} (h : w.heap[R]? = some (.cells #[u, v] t)) (x y : Int) :
    ((w.setCell ⟨R, 0, none⟩ (.int .i64 x)).setCell ⟨R, 1, none⟩ (.int .i64 y)).cell? ⟨R, 0, none⟩ = some (.int .i64 x) ∧ ((w.setCell ⟨R, 0, none⟩ (.int .i64 x)).setCell ⟨R, 1, none⟩ (.int .i64 y)).cell? ⟨R, 1, none⟩ = some (.int .i64 y) ∧ (w.setCell ⟨R, 0, none⟩ (.int .i64 x)).cell? ⟨R, 0, none⟩ = some (.int .i64 x) := by
  have h1 := heap_setCell_same w R 0 _ _ (.int .i64 x) h
  have h2 := heap_setCell_same _ R 1 _ _ (.int .i64 y) h1
  exact ⟨cell_of_row _ R 0 _ _ _ h2, cell_of_row _ R 1 _ _ _ h2, cell_of_row _ R 0 _ _ _ h1⟩
theorem PStep.fresh {w w' w'' : World} {h R : Nat} {o o' : Option Nat} (a : PStep w w' h o o') (hg : w'.grownBy w'' (some R)) (hR : w.heap.size ≤ R) : PStep w w'' h o o' := by
  obtain ⟨⟨a1, a2, a3⟩, a4, a5, a6⟩ := a
  exact ⟨⟨hg.os.trans a1, hg.tape.trans a2, hg.output.trans a3⟩, Nat.le_trans a4 hg.size, fun k hk h1 h2 => (hg.block k (Nat.lt_of_lt_of_le hk a4) (fun e => by have := Option.some.inj e; omega)).trans (a5 k hk h1 h2), a6⟩
theorem PPop.mk {b : Bool} {w w4 wr : World} {h base g n c R : Nat} {xs zs ys : List (Int × Int)} {x y : Int} (t : PT b w4 wr h base g n c zs ys) (h2 : HeapN (pkey b) ys n) (h3 : ∀ u, u ∈ xs ↔ u = (x, y) ∨ u ∈ zs) (h4 : ∀ u, u ∈ xs → pkey b (x, y) ≤ pkey b u) (h5 : PStep w wr h (some g) (some g)) (hR : w.heap.size ≤ R) (hRh : R ≠ h) (hRg : R ≠ g) :
    PPop b w h base g n c xs (.returned (.agg #[.int .i64 x, .int .i64 y])) ((wr.setCell ⟨R, 0, none⟩ (.int .i64 x)).setCell ⟨R, 1, none⟩ (.int .i64 y)) := by
  have hg : wr.grownBy ((wr.setCell ⟨R, 0, none⟩ (.int .i64 x)).setCell ⟨R, 1, none⟩ (.int .i64 y)) (some R) := only_setCell (p := ⟨R, 1, none⟩) (only_setCell (p := ⟨R, 0, none⟩) (World.grownBy.refl wr (some R)) (.inl rfl) (.int .i64 x)) (.inl rfl) (.int .i64 y)
  exact ⟨(x, y), ys, rfl, t.1.kept hg (fun e => hRh (Option.some.inj e)) (fun g' e1 e2 => hRg ((Option.some.inj e2).trans (Option.some.inj e1).symm)), h2, fun u => (h3 u).trans (by rw [t.2.1 u]), h4, h5.fresh hg hR⟩
/-- the inner loop: m is the least of k and of its children ahead of j -/
def InnR (key : Int × Int → Int) (ys : List (Int × Int)) (n k j m : Nat) : Prop :=
  (2 * k + 1 ≤ j ∧ j ≤ 2 * k + 3) ∧ (m = k ∨ 2 * k + 1 ≤ m ∧ m < j ∧ m < n) ∧ ky key ys m ≤ ky key ys k ∧ ∀ c, 2 * k + 1 ≤ c → c < j → c < n → ky key ys m ≤ ky key ys c
theorem InnR.start (key : Int × Int → Int) (ys : List (Int × Int)) (n k : Nat) : InnR key ys n k (2 * k + 1) k := ⟨⟨Nat.le_refl _, by omega⟩, .inl rfl, Int.le_refl _, fun c h1 h2 => by omega⟩
theorem InnR.less {key : Int × Int → Int} {ys : List (Int × Int)} {n k j m : Nat} (h : InnR key ys n k j m) (hj : j ≤ 2 * k + 2) (hn : j < n) (hr : ky key ys j < ky key ys m) : InnR key ys n k (j + 1) j := by
  obtain ⟨h1, h2, h3, h4⟩ := h
  refine ⟨by omega, .inr (by omega), by omega, fun c c1 c2 c3 => ?_⟩
  by_cases e : c = j
  · subst e; exact Int.le_refl _
  · have := h4 c c1 (by omega) c3; omega
theorem InnR.more {key : Int × Int → Int} {ys : List (Int × Int)} {n k j m : Nat} (h : InnR key ys n k j m) (hj : j ≤ 2 * k + 2) (hr : ¬ ky key ys j < ky key ys m) : InnR key ys n k (j + 1) m := by
  obtain ⟨h1, h2, h3, h4⟩ := h
  refine ⟨by omega, by omega, h3, fun c c1 c2 c3 => ?_⟩
  by_cases e : c = j
  · subst e; omega
  · exact h4 c c1 (by omega) c3
theorem InnR.all {key : Int × Int → Int} {ys : List (Int × Int)} {n k j m : Nat} (h : InnR key ys n k j m) (hd : ¬ (j ≤ 2 * k + 2 ∧ j < n)) : ∀ c, 0 < c → c < n → (c - 1) / 2 = k → ky key ys m ≤ ky key ys c := fun c c0 c1 c2 => by
  obtain ⟨h1, h2, h3, h4⟩ := h
  exact h4 c (by omega) (by omega) c1
set_option maxRecDepth 100000 in
set_option maxHeartbeats 4000000 in
theorem pilePop_any (b : Bool) (h base g n c : Nat) (xs : List (Int × Int)) (w : World) (hp : PL b w h base (some g) (n + 1) c xs) (hn : n ≤ 1000000) (hh : HeapN (pkey b) xs (n + 1)) :
    Calls Try.prog 28 #[.pointer (some ⟨h, 0, none⟩)] w (PPop b w h base g n c xs) := by
  have hl := hp.2.1
  have Hdn : Hid (HeapDn (pkey b) (popped xs n) n 0) := hideIt (popped_dn hh hl)
  have Hmem : Hid (∀ u, u ∈ xs ↔ u = (a2 xs 0, b2 xs 0) ∨ u ∈ popped xs n) := hideIt (popped_mem hl)
  have Hle : Hid (∀ u, u ∈ xs → pkey b (a2 xs 0, b2 xs 0) ≤ pkey b u) := hideIt fun u hu => hh.least_mem hl hu
  have hcap : n + 1 ≤ c := own_cap hp.2.2
  have hgw := (hp.low rfl).2
  have hhw := hp.lt
  have hgh : g ≠ h := fun e => hp.ne (congrArg some e)
  have hhg : h ≠ g := fun e => hgh e.symm
  obtain ⟨hx0, hy0⟩ := row2_a hp.2.2 (k := 0) (by omega)
  rw [Nat.zero_mul] at hx0 hy0
  obtain ⟨x0, ex0⟩ : ∃ u, a2 xs 0 = u := ⟨_, rfl⟩
  obtain ⟨y0, ey0⟩ : ∃ u, b2 xs 0 = u := ⟨_, rfl⟩
  rw [ex0] at hx0 Hmem Hle
  rw [ey0] at hy0 Hmem Hle
  have hpA := hp.alloc (.cells #[.int .i64 0, .int .i64 0] 54)
  have hpB := hpA.alloc (.cells #[.int .i64 x0, .int .i64 y0] 54)
  have hcA : (w.alloc (.cells #[.int .i64 0, .int .i64 0] 54)).cell? ⟨h, 0, none⟩ = some (.slice (some ⟨g, 0, none⟩) (n + 1) c) := hpA.cell
  have hcB : ((w.alloc (.cells #[.int .i64 0, .int .i64 0] 54)).alloc (.cells #[.int .i64 x0, .int .i64 y0] 54)).cell? ⟨h, 0, none⟩ = some (.slice (some ⟨g, 0, none⟩) (n + 1) c) := hpB.cell
  have hxA := (World.cell?_alloc_some w ⟨g, 0, none⟩ (.cells #[.int .i64 0, .int .i64 0] 54) (by rw [hx0]; rfl)).trans hx0
  have hyA := (World.cell?_alloc_some w ⟨g, 1, none⟩ (.cells #[.int .i64 0, .int .i64 0] 54) (by rw [hy0]; rfl)).trans hy0
  have HpB : Hid (PL b ((w.alloc (.cells #[.int .i64 0, .int .i64 0] 54)).alloc (.cells #[.int .i64 x0, .int .i64 y0] 54)) h base (some g) (n + 1) c xs) := hideIt hpB
  have hR : ((w.alloc (.cells #[.int .i64 0, .int .i64 0] 54)).alloc (.cells #[.int .i64 x0, .int .i64 y0] 54)).heap[w.heap.size]? = some (.cells #[.int .i64 0, .int .i64 0] 54) :=
    (Below.heap_alloc _ _ _ (by simp)).trans (heap_alloc_new w _)
  have hT : ((w.alloc (.cells #[.int .i64 0, .int .i64 0] 54)).alloc (.cells #[.int .i64 x0, .int .i64 y0] 54)).heap[w.heap.size + 1]? = some (.cells #[.int .i64 x0, .int .i64 y0] 54) := by
    have := heap_alloc_new (w.alloc (.cells #[.int .i64 0, .int .i64 0] 54)) (.cells #[.int .i64 x0, .int .i64 y0] 54)
    simpa using this
  have Hst := hideIt (PStep.of_below h (some g) (((Below.refl w.heap.size w).alloc (Nat.le_refl _) (.cells #[.int .i64 0, .int .i64 0] 54)).alloc (by simp) (.cells #[.int .i64 x0, .int .i64 y0] 54)))
  have hsub : IntKind.i64.wrap ((n : Int) + 1 - 1) = (n : Int) := by rw [show (n : Int) + 1 - 1 = n by omega]; exact IntWalk.i64_in _ (by omega)
  have hsub2 : IntKind.i64.wrap (n : Int) = (n : Int) := IntWalk.i64_in _ (by omega)
  have HR := hideIt (And.intro hR hT)
  clear hp hh hl hx0 hy0 ex0 ey0 hpA hpB hR hT
  go_enter Try.func28, Try.ntmps28
  go_wp2
  clear hcA hxA hyA hsub hsub2 hcB
  generalize hw2 : (w.alloc (.cells #[.int .i64 0, .int .i64 0] 54)).alloc (.cells #[.int .i64 x0, .int .i64 y0] 54) = w2 at *
  have hsz2 : w2.heap.size = w.heap.size + 2 := by rw [← hw2]; simp
  obtain ⟨R, hRe⟩ : ∃ R, w.heap.size = R := ⟨_, rfl⟩
  rw [hRe] at hsz2 hgw hhw HR
  rw [hRe]
  clear hw2
  have hc2 : w2.cell? ⟨h, 0, none⟩ = some (.slice (some ⟨g, 0, none⟩) (n + 1) c) := HpB.out.cell
  have ho2 : w2.ownsRow base 54 2 (.slice (some ⟨g, 0, none⟩) (n + 1) c) (n + 1) (fl2 xs) := HpB.out.2.2
  obtain ⟨hxn, hyn⟩ := row2_a ho2 (k := n) (by rw [HpB.out.2.1]; omega)
  have hfr2 := fun j => ho2.frozenAt j
  have hfh : w2.frozen? ⟨h, 0, none⟩ = false := by simp [World.frozen?, HpB.out.1]
  have hz0 := (row2_a ho2 (k := 0) (by rw [HpB.out.2.1]; omega)).1
  have hz1 := (row2_a ho2 (k := 0) (by rw [HpB.out.2.1]; omega)).2
  rw [Nat.zero_mul] at hz0 hz1
  have Hsh := hideIt (HpB.out.shorter)
  obtain ⟨xn, exn⟩ : ∃ u, a2 xs n = u := ⟨_, rfl⟩
  obtain ⟨yn, eyn⟩ : ∃ u, b2 xs n = u := ⟨_, rfl⟩
  rw [exn] at hxn Hsh
  rw [eyn] at hyn Hsh
  have hnn : (n : Int) < (n : Int) + 1 := by omega
  clear exn eyn ho2
  go_region
  go_wp2
  have hp4 : PL b (((w2.setCell ⟨g, 0, none⟩ (.int .i64 xn)).setCell ⟨g, 1, none⟩ (.int .i64 yn)).setCell ⟨h, 0, none⟩ (.slice (some ⟨g, 0, none⟩) n c)).drew h base (some g) n c (popped xs n) := Hsh.out.1
  have hs4 : PStep w2 (((w2.setCell ⟨g, 0, none⟩ (.int .i64 xn)).setCell ⟨g, 1, none⟩ (.int .i64 yn)).setCell ⟨h, 0, none⟩ (.slice (some ⟨g, 0, none⟩) n c)).drew h (some g) (some g) := Hsh.out.2
  clear hc2 hxn hyn hfr2 hfh hz0 hz1 Hsh
  generalize hw4 : (((w2.setCell ⟨g, 0, none⟩ (.int .i64 xn)).setCell ⟨g, 1, none⟩ (.int .i64 yn)).setCell ⟨h, 0, none⟩ (.slice (some ⟨g, 0, none⟩) n c)).drew = w4 at *
  clear hw4
  have hRg : some R ≠ some g := fun e => by have := Option.some.inj e; omega
  have hTg : some (R + 1) ≠ some g := fun e => by have := Option.some.inj e; omega
  have hR4 := (hs4.2.2.1 R (by omega) (by omega) (fun e => hRg e.symm)).trans HR.out.1
  have hT4 := (hs4.2.2.1 (R + 1) (by omega) (by omega) (fun e => hTg e.symm)).trans HR.out.2
  have hsz4 : R + 1 < w4.heap.size := by have := hs4.2.1; omega
  have HR4 : Hid (∀ wx, w4.grownBy wx (some g) → wx.heap[R]? = some (.cells #[.int .i64 0, .int .i64 0] 54) ∧ wx.heap[R + 1]? = some (.cells #[.int .i64 x0, .int .i64 y0] 54)) := hideIt fun wx hg =>
    ⟨(hg.block R (by omega) hRg).trans hR4, (hg.block (R + 1) hsz4 hTg).trans hT4⟩
  have Hs4 := hideIt (Hst.out.trans hs4)
  have Hp4 : Hid (PL b w4 h base (some g) n c (popped xs n)) := hideIt hp4
  clear hR4 hT4 hp4 hs4 hRg hTg Hst HR HpB hnn
  go_loopw [5] (fun i wr => ∃ (k : Nat) (ys : List (Int × Int)), i = .int .i64 k ∧ k ≤ n ∧ HeapDn (pkey b) ys n k ∧ PT b w4 wr h base g n c (popped xs n) ys) (fun i _ => n + 1 - (intOf i).toNat)
  case atStart => exact ⟨0, _, rfl, Nat.zero_le _, Hdn.out, PT.refl Hp4.out⟩
  case round =>
    obtain ⟨k, ys, rfl, hk, hdk, ht⟩ := hrel
    have Hdk : Hid (HeapDn (pkey b) ys n k) := hideIt hdk
    clear hdk
    go_wp2
    go_loopw [6, 7] (fun l d wx => ∃ (j m : Nat), l = .int .i64 m ∧ d = .int .i64 j ∧ InnR (pkey b) ys n k j m ∧ PT b w4 wx h base g n c (popped xs n) ys) (fun _ d _ => 2 * k + 3 - (intOf d).toNat)
    case atStart => exact ⟨2 * k + 1, k, rfl, by go_num, InnR.start _ ys n k, ht⟩
    case round =>
      obtain ⟨j, m, rfl, rfl, hin, ht2⟩ := hrel
      have Hin : Hid (InnR (pkey b) ys n k j m) := hideIt hin
      have Ht : Hid (PT b w4 wr h base g n c (popped xs n) ys) := hideIt ht2
      have hl := hideIt ht2.1.2.1
      have hj3 := hin.1.2
      clear hin ht ht2
      by_cases hd : j ≤ 2 * k + 2 ∧ j < n
      · obtain ⟨hd1, hjn⟩ := hd
        have hmn : m < n := by have := Hin.out; unfold InnR at this; omega
        have hdi : (j : Int) ≤ 2 * (k : Int) + 2 := by omega
        have hji : (j : Int) < (n : Int) := by omega
        have hcw : wr.cell? ⟨h, 0, none⟩ = some (.slice (some ⟨g, 0, none⟩) n c) := Ht.out.1.cell
        have hcf := Ht.out.1.cellF
        have ho : wr.ownsRow base 54 2 (.slice (some ⟨g, 0, none⟩) n c) n (fl2 ys) := Ht.out.1.2.2
        have hx1 := row2_a ho (k := j) (by rw [hl.out]; exact hjn)
        have hx2 := row2_a ho (k := m) (by rw [hl.out]; exact hmn)
        obtain ⟨u1, e1⟩ : ∃ u, a2 ys j = u := ⟨_, rfl⟩
        obtain ⟨v1, e2⟩ : ∃ u, b2 ys j = u := ⟨_, rfl⟩
        obtain ⟨u2, e3⟩ : ∃ u, a2 ys m = u := ⟨_, rfl⟩
        obtain ⟨v2, e4⟩ : ∃ u, b2 ys m = u := ⟨_, rfl⟩
        rw [e1, e2] at hx1
        rw [e3, e4] at hx2
        obtain ⟨hx1, hy1⟩ := hx1
        obtain ⟨hx2, hy2⟩ := hx2
        have HE := hideIt (And.intro (And.intro e1 e2) (And.intro e3 e4))
        have hmi : (m : Int) < (n : Int) := by omega
        have Hjn := hideIt hjn
        have Hd1 := hideIt hd1
        clear e1 e2 e3 e4 ho hd1
        go_wp2
        go_still_tail 18, (by kernel_rfl)
        change wpList _ _ _ _ _ wr.drew
        obtain ⟨r, hr⟩ : ∃ r, decide (ky (pkey b) ys j < ky (pkey b) ys m) = r := ⟨_, rfl⟩
        have hcall := pless_any b u1 v1 u2 v2 wr.drew r (by rw [← hr, ← HE.out.1.1, ← HE.out.1.2, ← HE.out.2.1, ← HE.out.2.2]; rfl)
        have Hr := hideIt hr
        clear hx1 hx2 hy1 hy2 hr hcw hcf hji hdi hmi
        cases b
        all_goals
          first | rw [show pfn false = 26 from rfl] at * | rw [show pfn true = 25 from rfl] at *
          go_wp2_with fail
          refine hcall.mono ?_
          rintro e w5 ⟨rfl, hb5⟩
          have Ht5 := hideIt (Ht.out.below (w'' := w5) ⟨hb5.os, hb5.tape, hb5.output, hb5.size, hb5.block⟩)
          clear hcall hb5
          have hwj : IntKind.i64.wrap ((j : Int) + 1) = (j : Int) + 1 := IntWalk.i64_in _ (by omega)
          cases r
          · have Hi := hideIt (Hin.out.more Hd1.out (by have := Hr.out; rw [decide_eq_false_iff_not] at this; exact this))
            go_wp2
            go_roundw
            case rel => exact ⟨j + 1, m, rfl, by go_num, Hi.out, Ht5.out⟩
            case measure => have := Hd1.out; simp [intOf]; omega
          · have Hi := hideIt (Hin.out.less Hd1.out Hjn.out (by have := Hr.out; rw [decide_eq_true_eq] at this; exact this))
            go_wp2
            go_roundw
            case rel => exact ⟨j + 1, j, rfl, by go_num, Hi.out, Ht5.out⟩
            case measure => have := Hd1.out; simp [intOf]; omega
      · have Hall := hideIt (Hin.out.all hd)
        have Hd := hideIt hd
        obtain ⟨hR5, hT5⟩ := HR4.out wr Ht.out.2.2
        have ht0 : wr.cell? ⟨R + 1, 0, none⟩ = some (.int .i64 x0) := cell_of_row wr (R + 1) 0 _ _ _ hT5
        have ht1 : wr.cell? ⟨R + 1, 1, none⟩ = some (.int .i64 y0) := cell_of_row wr (R + 1) 1 _ _ _ hT5
        have hr0 : wr.cell? ⟨R, 0, none⟩ = some (.int .i64 0) := cell_of_row wr R 0 _ _ _ hR5
        have hr1 : wr.cell? ⟨R, 1, none⟩ = some (.int .i64 0) := cell_of_row wr R 1 _ _ _ hR5
        have hq := PCell.two hR5 x0 y0
        have hq0 := hq.1
        have hq1 := hq.2.1
        have hqa := hq.2.2
        have hrf : ∀ j, wr.frozen? ⟨R, j, none⟩ = false := fun j => by simp [World.frozen?, hR5]
        by_cases hmk : m = k
        · subst hmk
          have Hstop := hideIt (Hdk.out.stop Hall.out)
          have hs7 := hideIt (Hs4.out.trans (PStep.of_grown h Ht.out.2.2))
          have hkk : ((m : Int) == (m : Int)) = true := by simp
          by_cases hd1 : j ≤ 2 * m + 2
          · have hdi : (j : Int) ≤ 2 * (m : Int) + 2 := by omega
            have hji : ¬ (j : Int) < (n : Int) := by omega
            clear hd
            go_wp2
            refine bodyPost_ret (v := .agg #[.int .i64 x0, .int .i64 y0]) (by first | (simp [results, Try.results28, go_sem, hqa, hq1]; done) | (simp [results, Try.results28, go_sem, hqa, hq1]; rfl)) rfl ?_
            exact PPop.mk Ht.out Hstop.out Hmem.out Hle.out hs7.out (by omega) (by omega) (by omega)
          · have hdi : ¬ (j : Int) ≤ 2 * (m : Int) + 2 := by omega
            clear hd
            go_wp2
            refine bodyPost_ret (v := .agg #[.int .i64 x0, .int .i64 y0]) (by first | (simp [results, Try.results28, go_sem, hqa, hq1]; done) | (simp [results, Try.results28, go_sem, hqa, hq1]; rfl)) rfl ?_
            exact PPop.mk Ht.out Hstop.out Hmem.out Hle.out hs7.out (by omega) (by omega) (by omega)
        · have hin := Hin.out
          unfold InnR at hin
          have hmn : m < n := by omega
          have hkm : k < m := by omega
          have hkn : k < n := by omega
          have Hstep := hideIt (Hdk.out.step (j := m) (by rw [hl.out]; exact Nat.le_refl _) (by omega) hmn (by omega) hin.2.2.1 Hall.out)
          have hcw : wr.cell? ⟨h, 0, none⟩ = some (.slice (some ⟨g, 0, none⟩) n c) := Ht.out.1.cell
          have ho : wr.ownsRow base 54 2 (.slice (some ⟨g, 0, none⟩) n c) n (fl2 ys) := Ht.out.1.2.2
          have hx1 := row2_a ho (k := k) (by rw [hl.out]; exact hkn)
          have hx2 := row2_a ho (k := m) (by rw [hl.out]; exact hmn)
          have hfr5 := fun j => ho.frozenAt j
          obtain ⟨u1, e1⟩ : ∃ u, a2 ys k = u := ⟨_, rfl⟩
          obtain ⟨v1, e2⟩ : ∃ u, b2 ys k = u := ⟨_, rfl⟩
          obtain ⟨u2, e3⟩ : ∃ u, a2 ys m = u := ⟨_, rfl⟩
          obtain ⟨v2, e4⟩ : ∃ u, b2 ys m = u := ⟨_, rfl⟩
          rw [e1, e2] at hx1
          rw [e3, e4] at hx2
          obtain ⟨hx1, hy1⟩ := hx1
          obtain ⟨hx2, hy2⟩ := hx2
          have hkq : k ≠ m := by omega
          have Hst5 := hideIt (PSet.mk Ht.out hl.out hkn hmn hkq (And.intro (And.intro e1 e2) (And.intro e3 e4)))
          rw [swp_comm ys (fun e => hkq e.symm)] at Hst5
          have hki : (k : Int) < (n : Int) := by omega
          have hmi : (m : Int) < (n : Int) := by omega
          have hne : ((m : Int) == (k : Int)) = false := by simp; omega
          have Hkm := hideIt hkm
          have Hmn := hideIt hmn
          by_cases hd1 : j ≤ 2 * k + 2
          · have hdi : (j : Int) ≤ 2 * (k : Int) + 2 := by omega
            have hji : ¬ (j : Int) < (n : Int) := by omega
            clear hd hin ho e1 e2 e3 e4 hR5 hT5 ht0 ht1 hr0 hr1 hrf hq hq0 hq1 hqa
            go_wp2
            go_region
            go_wp2
            go_roundw
            case rel => exact ⟨m, swp ys k m, rfl, by have := Hmn.out; omega, Hstep.out, Hst5.out.drew⟩
            case measure => have := Hkm.out; have := Hmn.out; simp [intOf]; omega
          · have hdi : ¬ (j : Int) ≤ 2 * (k : Int) + 2 := by omega
            clear hd hin ho e1 e2 e3 e4 hR5 hT5 ht0 ht1 hr0 hr1 hrf hq hq0 hq1 hqa
            go_wp2
            go_region
            go_wp2
            go_roundw
            case rel => exact ⟨m, swp ys k m, rfl, by have := Hmn.out; omega, Hstep.out, Hst5.out.drew⟩
            case measure => have := Hkm.out; have := Hmn.out; simp [intOf]; omega
end Go.Proofs.Ytckjagpjljbohaa

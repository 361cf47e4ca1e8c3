/- Walks: slices.SortStableFunc of indexes by a cost (insertion), at the closure of shareOut. -/
import Derived.Test.YtfnpkbfgemcbaaaSort
import Derived.Shelf.Abstract
namespace Go.Proofs.Ytfnpkbfgemcbaaa
open Go.RowKit

theorem Below_dN {B : Nat} {w w' : World} (h : Below B w w') (n : Nat) : Below B w (w'.drewN n) := by
  induction n with
  | zero => exact h
  | succ n ih => exact ih.drew
/-- the key of an index: its miles, then itself -/
def keyF (cf : Nat → Int) (v : Int) : Int := 1000 * cf v.toNat + v
def keysF (cf : Nat → Int) (ys : List Int) : List Int := ys.map (keyF cf)
theorem keysF_len (cf : Nat → Int) (ys : List Int) : (keysF cf ys).length = ys.length := by simp [keysF]
theorem keysF_at (cf : Nat → Int) (ys : List Int) (i : Nat) (h : i < ys.length) : a1 (keysF cf ys) i = keyF cf (a1 ys i) := by
  unfold a1 keysF
  rw [List.getD_eq_getElem?_getD, List.getD_eq_getElem?_getD, List.getElem?_map, List.getElem?_eq_getElem h]
  rfl
theorem keysF_swap (cf : Nat → Int) (ys : List Int) (p : Nat) (h : p + 1 < ys.length) : keysF cf (swapAt ys p) = swapAt (keysF cf ys) p := by
  unfold swapAt
  rw [keysF_at _ _ _ h, keysF_at _ _ _ (by omega)]
  unfold keysF
  rw [List.map_set, List.map_set]
/-- indexes that are being sorted: those ahead of k are in order, the others stand where they stood -/
structure StabF (cf : Nat → Int) (n k : Nat) (ys : List Int) : Prop where
  len : ys.length = n
  perm : ys.Perm ((List.range n).map fun (i : Nat) => (i : Int))
  asc : AscTo (keysF cf ys) k
  lo : ∀ i, i < k → i < n → 0 ≤ a1 ys i ∧ a1 ys i < k
  hi : ∀ i, k ≤ i → i < n → a1 ys i = i
structure StabFIn (cf : Nat → Int) (n k j : Nat) (ys : List Int) : Prop where
  len : ys.length = n
  perm : ys.Perm ((List.range n).map fun (i : Nat) => (i : Int))
  alm : Almost (keysF cf ys) j k
  at' : a1 ys j = k
  lo : ∀ i, i ≤ k → i ≠ j → i < n → 0 ≤ a1 ys i ∧ a1 ys i < k
  hi : ∀ i, k < i → i < n → a1 ys i = i
section
variable {cf : Nat → Int} {n k j : Nat} {ys : List Int}
theorem StabF.first (n : Nat) : StabF cf n 1 ((List.range n).map fun (i : Nat) => (i : Int)) := by
  have hat : ∀ i, i < n → a1 ((List.range n).map fun (i : Nat) => (i : Int)) i = i := fun i hi => by simp [a1, hi]
  exact ⟨by simp, List.Perm.refl _, fun i j h1 h2 => by omega, fun i hi hn => by rw [hat i hn]; omega, fun i _ hn => hat i hn⟩
theorem StabF.into (h : StabF cf n k ys) (hk : k < n) : StabFIn cf n k k ys := ⟨h.len, h.perm, almost_start h.asc, h.hi k (Nat.le_refl _) hk, fun i h1 h2 h3 => h.lo i (by omega) h3, fun i h1 h2 => h.hi i (by omega) h2⟩
theorem StabFIn.out0 (h : StabFIn cf n k 0 ys) : StabF cf n (k + 1) ys := ⟨h.len, h.perm, almost_zero h.alm, fun i h1 h2 => by
  by_cases e : i = 0
  · subst e; rw [h.at']; omega
  · have := h.lo i (by omega) e h2; omega, fun i h1 h2 => h.hi i (by omega) h2⟩
theorem StabFIn.less_iff (h : StabFIn cf n k (j + 1) ys) (hn : n ≤ 100) (hj : j + 1 ≤ k) (hk : k < n) : a1 (keysF cf ys) (j + 1) < a1 (keysF cf ys) j ↔ cf k - cf (a1 ys j).toNat < 0 := by
  have h1 := h.at'
  have h2 := h.lo j (by omega) (by omega) (by omega)
  rw [keysF_at _ _ _ (by rw [h.len]; omega), keysF_at _ _ _ (by rw [h.len]; omega)]
  unfold keyF
  rw [h1, Int.toNat_natCast]
  omega
theorem StabFIn.out (h : StabFIn cf n k (j + 1) ys) (hn : n ≤ 100) (hj : j + 1 ≤ k) (hk : k < n) (hc : ¬ cf k - cf (a1 ys j).toNat < 0) : StabF cf n (k + 1) ys := ⟨h.len, h.perm, almost_end h.alm (by
  have := mt (h.less_iff hn hj hk).1 hc
  omega), fun i h1 h2 => by
  by_cases e : i = j + 1
  · subst e; rw [h.at']; omega
  · have := h.lo i (by omega) e h2; omega, fun i h1 h2 => h.hi i (by omega) h2⟩
theorem StabFIn.step (h : StabFIn cf n k (j + 1) ys) (hn : n ≤ 100) (hj : j + 1 ≤ k) (hk : k < n) (hc : cf k - cf (a1 ys j).toNat < 0) : StabFIn cf n k j (swapAt ys j) := by
  have hl : j + 1 < ys.length := by rw [h.len]; omega
  have hsw := fun i => swapAt_a ys j i hl
  refine ⟨by rw [swapAt_len]; exact h.len, (swapAt_perm ys j hl).trans h.perm, ?_, ?_, fun i h1 h2 h3 => ?_, fun i h1 h2 => ?_⟩
  · rw [keysF_swap _ _ _ hl]
    exact almost_swap h.alm ((h.less_iff hn hj hk).2 hc) hj (by rw [keysF_len, h.len]; exact hk)
  · rw [hsw, if_pos rfl, h.at']
  · rw [hsw, if_neg h2]
    by_cases e : i = j + 1
    · rw [if_pos e]; exact h.lo j (by omega) (by omega) (by omega)
    · rw [if_neg e]; exact h.lo i h1 e h3
  · rw [hsw, if_neg (by omega), if_neg (by omega)]
    exact h.hi i h1 h2
end
/-- the closure tells one cost less another one -/
def CostFn (w0 : World) (cf : Nat → Int) (n p1 p2 p3 : Nat) : Prop :=
  ∀ (w' : World), Below w0.heap.size w0 w' → ∀ i j : Nat, i < n → j < n → Calls Try.prog 64 #[.int .i64 (i : Int), .int .i64 (j : Int), .pointer (some ⟨p1, 0, none⟩), .pointer (some ⟨p2, 0, none⟩), .pointer (some ⟨p3, 0, none⟩)] w' fun e w'' => e = .returned (.int .i64 (cf i - cf j)) ∧ ∃ q, w'' = w'.drewN q
/-- what the sorted indexes are -/
def StabFPost (w0 w : World) (cf : Nat → Int) (n : Nat) (A : Option Addr) (cap : Nat) (e : Ending) (w' : World) : Prop :=
  e = .returned (.tuple #[]) ∧ ∃ ys : List Int, ys.Perm ((List.range n).map fun (i : Nat) => (i : Int)) ∧ AscTo (keysF cf ys) n ∧ w'.ownsRow w0.heap.size 3 1 (.slice A n cap) n (fl1 ys) ∧ Below w0.heap.size w0 w' ∧ w.grownBy w' (Value.slice A n cap).ownBlock
set_option maxRecDepth 100000 in
set_option maxHeartbeats 4000000 in
theorem stabFIns_any (w0 : World) (A : Option Addr) (cf : Nat → Int) (n cap p1 p2 p3 : Nat) (w : World) (hn : n ≤ 16) (hcall : CostFn w0 cf n p1 p2 p3) (hb : Below w0.heap.size w0 w)
    (hown : w.ownsRow w0.heap.size 3 1 (.slice A n cap) n (fl1 ((List.range n).map fun (i : Nat) => (i : Int)))) :
    Calls Try.prog 67 #[.slice A n cap, .int .i64 0, .int .i64 n, .func (.func 64) #[] #[.pointer (some ⟨p1, 0, none⟩), .pointer (some ⟨p2, 0, none⟩), .pointer (some ⟨p3, 0, none⟩)]] w (StabFPost w0 w cf n A cap) := by
  have eg : ∀ args w, (callFunc 64 args).run Try.prog w = .ok (.enter 64 args) w := enters_of Try.func64 (by kernel_rfl) rfl
  have HC : Hid (CostFn w0 cf n p1 p2 p3) := hideIt hcall
  clear hcall
  go_enter Try.func67, Try.ntmps67
  go_wp2
  go_loopw [8] (fun i wr => ∃ (k : Nat) (ys : List Int), i = .int .i64 k ∧ 1 ≤ k ∧ (k ≤ n ∨ n = 0 ∧ k = 1) ∧ Hid (StabF cf n k ys) ∧ wr.ownsRow w0.heap.size 3 1 (.slice A n cap) n (fl1 ys) ∧ Below w0.heap.size w0 wr ∧ w.grownBy wr (Value.slice A n cap).ownBlock) (fun i _ => n - (intOf i).toNat)
  case atStart => exact ⟨1, _, rfl, by omega, by omega, hideIt (StabF.first n), hown, hb, World.grownBy.refl _ _⟩
  case round =>
    obtain ⟨k, ys, rfl, k1, hk, HS, hrow, hbw, hgr⟩ := hrel
    clear hown hb
    by_cases hlt : k < n
    · go_wp2
      go_loopw [9] (fun i wr => ∃ (j : Nat) (ys : List Int), i = .int .i64 j ∧ j ≤ k ∧ Hid (StabFIn cf n k j ys) ∧ wr.ownsRow w0.heap.size 3 1 (.slice A n cap) n (fl1 ys) ∧ Below w0.heap.size w0 wr ∧ w.grownBy wr (Value.slice A n cap).ownBlock) (fun i _ => (intOf i).toNat)
      case atStart => exact ⟨k, ys, rfl, Nat.le_refl _, hideIt (HS.out.into hlt), hrow, hbw, hgr⟩
      case round =>
        clear hrow hbw HS hgr
        obtain ⟨j, ys, rfl, hj, HS, hrow, hbw, hgr⟩ := hrel
        have Hly := hideIt HS.out.len
        by_cases hj0 : j = 0
        · subst hj0
          have hS2 := hideIt HS.out.out0
          go_wp2
          go_quiet (fail)
          go_wp2
          go_roundw
          case rel => exact ⟨k + 1, ys, by go_num, by omega, by omega, hS2, ownD hrow _, Below_dN hbw _, only_drewN hgr _⟩
          case measure => simp [intOf]; omega
        · obtain ⟨q, rfl⟩ : ∃ q, j = q + 1 := ⟨j - 1, by omega⟩
          obtain ⟨g, rfl, hbg, hlg⟩ := own_some hrow (by omega)
          have hxp := row1_a hrow (k := q) (by rw [Hly.out]; omega)
          have hxj := row1_a hrow (k := q + 1) (by rw [Hly.out]; omega)
          have hat := HS.out.at'
          have hlo := HS.out.lo q (by omega) (by omega) (by omega)
          rw [hat] at hxj
          obtain ⟨u, hu⟩ := Int.eq_ofNat_of_zero_le hlo.1
          rw [hu] at hxp
          have hun : u < n := by omega
          have huk : u < k := by omega
          have hw := IntWalk.i64_in (q : Int) (by omega)
          have hpn : (q : Int) < (n : Int) := by omega
          have hpn2 : (q : Int) + 1 < (n : Int) := by omega
          obtain ⟨x, hx⟩ : ∃ x, cf k = x := ⟨_, rfl⟩
          obtain ⟨y, hy⟩ : ∃ y, cf u = y := ⟨_, rfl⟩
          have Hcall := hideIt (fun (d : Nat) => HC.out (wr.drewN d) (Below_dN hbw d) k u hlt hun)
          rw [hx, hy] at Hcall
          by_cases hc : x - y < 0
          · have hst := row1_store (row1_store hrow (k := q + 1) (by rw [Hly.out]; omega) (a1 ys q)) (k := q) (by rw [List.length_set, Hly.out]; omega) (a1 ys (q + 1))
            have hst' : (((wr.setCell ⟨g, q + 1, none⟩ (.int .i64 (a1 ys q))).setCell ⟨g, q, none⟩ (.int .i64 (a1 ys (q + 1))))).ownsRow w0.heap.size 3 1 (.slice (some ⟨g, 0, none⟩) n cap) n (fl1 (swapAt ys q)) := hst
            rw [hat, hu] at hst'
            have HS2 := hideIt (HS.out.step (by omega) hj hlt (by rw [hu, Int.toNat_natCast, hx, hy]; exact hc))
            have hfr := fun j => hrow.frozenAt j
            have bs := (hbw.setCell (p := ⟨g, q + 1, none⟩) hbg (.int .i64 (u : Int))).setCell (p := ⟨g, q, none⟩) hbg (.int .i64 (k : Int))
            clear hst hrow hat hu hx hy hlo
            go_wp2
            go_quiet ((go_at_fn 64; exact Calls.quiet_of (Hcall.out _)))
            go_wp2
            go_region
            go_wp2
            go_roundw
            case rel => exact ⟨q, swapAt ys q, by go_num, by omega, HS2, ownD hst' _, Below_dN bs _, only_drewN (only_setCell (p := ⟨g, q, none⟩) (only_setCell (p := ⟨g, q + 1, none⟩) hgr (.inl rfl) _) (.inl rfl) _) _⟩
            case measure => simp [intOf]
          · have HS2 := hideIt (HS.out.out (by omega) hj hlt (by rw [hu, Int.toNat_natCast, hx, hy]; exact hc))
            clear hat hu hx hy hlo
            go_wp2
            go_quiet ((go_at_fn 64; exact Calls.quiet_of (Hcall.out _)))
            go_wp2
            go_roundw
            case rel => exact ⟨k + 1, ys, by go_num, by omega, by omega, HS2, ownD hrow _, Below_dN hbw _, only_drewN hgr _⟩
            case measure => simp [intOf]; omega
    · go_wp2
      go_end0
      obtain rfl | ⟨rfl, rfl⟩ : k = n ∨ n = 0 ∧ k = 1 := by omega
      · exact ⟨rfl, ys, HS.out.perm, HS.out.asc, hrow, hbw, hgr⟩
      · exact ⟨rfl, ys, HS.out.perm, fun i j h1 h2 => by omega, hrow, hbw, hgr⟩
set_option maxRecDepth 100000 in
set_option maxHeartbeats 4000000 in
theorem stableFCmp_any (w0 : World) (A : Option Addr) (cf : Nat → Int) (n cap p1 p2 p3 : Nat) (w : World) (hn : n ≤ 16) (hcall : CostFn w0 cf n p1 p2 p3) (hb : Below w0.heap.size w0 w)
    (hown : w.ownsRow w0.heap.size 3 1 (.slice A n cap) n (fl1 ((List.range n).map fun (i : Nat) => (i : Int)))) :
    Calls Try.prog 66 #[.slice A n cap, .int .i64 n, .func (.func 64) #[] #[.pointer (some ⟨p1, 0, none⟩), .pointer (some ⟨p2, 0, none⟩), .pointer (some ⟨p3, 0, none⟩)]] w (StabFPost w0 w cf n A cap) := by
  have HC : Hid (CostFn w0 cf n p1 p2 p3) := hideIt hcall
  clear hcall
  go_enter Try.func66, Try.ntmps66
  go_wp2
  go_loopw [7, 8] (fun a b wr => a = .int .i64 0 ∧ b = .int .i64 20 ∧ wr = w) (fun _ _ _ => 0)
  case atStart => exact ⟨rfl, rfl, rfl⟩
  case round =>
    obtain ⟨rfl, rfl, rfl⟩ := hrel
    have h20 : (n : Int) < 20 := by omega
    go_wp2_with fail
    refine (stabFIns_any w0 A cf n cap p1 p2 p3 _ hn HC.out hb hown).mono ?_
    rintro e w' ⟨rfl, hpost⟩
    have Hpost := hideIt hpost
    clear hpost
    go_wp2
    go_loopw [6] (fun a wr => a = .int .i64 20 ∧ wr = w') (fun _ _ => 0)
    case atStart => exact ⟨rfl, rfl⟩
    case round =>
      obtain ⟨rfl, rfl⟩ := hrel
      go_wp2
      go_end0
      exact ⟨rfl, Hpost.out⟩
set_option maxRecDepth 100000 in
set_option maxHeartbeats 4000000 in
theorem sortStableF_any (w0 : World) (A : Option Addr) (cf : Nat → Int) (n cap p1 p2 p3 : Nat) (w : World) (hn : n ≤ 16) (hcall : CostFn w0 cf n p1 p2 p3) (hb : Below w0.heap.size w0 w)
    (hown : w.ownsRow w0.heap.size 3 1 (.slice A n cap) n (fl1 ((List.range n).map fun (i : Nat) => (i : Int)))) :
    Calls Try.prog 63 #[.slice A n cap, .func (.func 64) #[] #[.pointer (some ⟨p1, 0, none⟩), .pointer (some ⟨p2, 0, none⟩), .pointer (some ⟨p3, 0, none⟩)]] w (StabFPost w0 w cf n A cap) := by
  have HC : Hid (CostFn w0 cf n p1 p2 p3) := hideIt hcall
  clear hcall
  go_enter Try.func63, Try.ntmps63
  go_wp2_with fail
  refine (stableFCmp_any w0 A cf n cap p1 p2 p3 _ hn HC.out hb hown).mono ?_
  rintro e w' ⟨rfl, hpost⟩
  have Hpost := hideIt hpost
  clear hpost
  go_wp2
  go_end0
  exact ⟨rfl, Hpost.out⟩
end Go.Proofs.Ytfnpkbfgemcbaaa

/- Walks: slices.SortStableFunc of indexes by the miles of their roads (insertion). -/
import Derived.Test.YtdnjeahbnidefaaSort
import Derived.Test.YtdnjeahbnidefaaGA
import Derived.Shelf.Abstract
namespace Go.Proofs.Ytdnjeahbnidefaa
open Go.RowKit

theorem Below_dN {B : Nat} {w w' : World} (h : Below B w w') (n : Nat) : Below B w (w'.drewN n) := by
  induction n with
  | zero => exact h
  | succ n ih => exact ih.drew
/-- the key of an index: its miles, then itself -/
def keyOf (rs : List (Int × Int × Int)) (v : Int) : Int := 1000 * c3 rs v.toNat + v
def keys (rs : List (Int × Int × Int)) (ys : List Int) : List Int := ys.map (keyOf rs)
theorem keys_len (rs : List (Int × Int × Int)) (ys : List Int) : (keys rs ys).length = ys.length := by simp [keys]
theorem keys_at (rs : List (Int × Int × Int)) (ys : List Int) (i : Nat) (h : i < ys.length) : a1 (keys rs ys) i = keyOf rs (a1 ys i) := by
  unfold a1 keys
  rw [List.getD_eq_getElem?_getD, List.getD_eq_getElem?_getD, List.getElem?_map, List.getElem?_eq_getElem h]
  rfl
theorem keys_swap (rs : List (Int × Int × Int)) (ys : List Int) (p : Nat) (h : p + 1 < ys.length) : keys rs (swapAt ys p) = swapAt (keys rs ys) p := by
  unfold swapAt
  rw [keys_at _ _ _ h, keys_at _ _ _ (by omega)]
  unfold keys
  rw [List.map_set, List.map_set]
/-- indexes that are being sorted: those ahead of k are in order, the others stand where they stood -/
structure Stab (rs : List (Int × Int × Int)) (n k : Nat) (ys : List Int) : Prop where
  len : ys.length = n
  perm : ys.Perm ((List.range n).map fun (i : Nat) => (i : Int))
  asc : AscTo (keys rs ys) k
  lo : ∀ i, i < k → i < n → 0 ≤ a1 ys i ∧ a1 ys i < k
  hi : ∀ i, k ≤ i → i < n → a1 ys i = i
structure StabIn (rs : List (Int × Int × Int)) (n k j : Nat) (ys : List Int) : Prop where
  len : ys.length = n
  perm : ys.Perm ((List.range n).map fun (i : Nat) => (i : Int))
  alm : Almost (keys rs ys) j k
  at' : a1 ys j = k
  lo : ∀ i, i ≤ k → i ≠ j → i < n → 0 ≤ a1 ys i ∧ a1 ys i < k
  hi : ∀ i, k < i → i < n → a1 ys i = i
section
variable {rs : List (Int × Int × Int)} {n k j : Nat} {ys : List Int}
theorem Stab.first (n : Nat) : Stab rs n 1 ((List.range n).map fun (i : Nat) => (i : Int)) := by
  have hat : ∀ i, i < n → a1 ((List.range n).map fun (i : Nat) => (i : Int)) i = i := fun i hi => by simp [a1, hi]
  exact ⟨by simp, List.Perm.refl _, fun i j h1 h2 => by omega, fun i hi hn => by rw [hat i hn]; omega, fun i _ hn => hat i hn⟩
theorem Stab.into (h : Stab rs n k ys) (hk : k < n) : StabIn rs n k k ys := ⟨h.len, h.perm, almost_start h.asc, h.hi k (Nat.le_refl _) hk, fun i h1 h2 h3 => h.lo i (by omega) h3, fun i h1 h2 => h.hi i (by omega) h2⟩
theorem StabIn.out0 (h : StabIn rs n k 0 ys) : Stab rs n (k + 1) ys := ⟨h.len, h.perm, almost_zero h.alm, fun i h1 h2 => by
  by_cases e : i = 0
  · subst e; rw [h.at']; omega
  · have := h.lo i (by omega) e h2; omega, fun i h1 h2 => h.hi i (by omega) h2⟩
theorem StabIn.less_iff (h : StabIn rs n k (j + 1) ys) (hn : n ≤ 100) (hj : j + 1 ≤ k) (hk : k < n) : a1 (keys rs ys) (j + 1) < a1 (keys rs ys) j ↔ c3 rs k - c3 rs (a1 ys j).toNat < 0 := by
  have h1 := h.at'
  have h2 := h.lo j (by omega) (by omega) (by omega)
  rw [keys_at _ _ _ (by rw [h.len]; omega), keys_at _ _ _ (by rw [h.len]; omega)]
  unfold keyOf
  rw [h1, Int.toNat_natCast]
  omega
theorem StabIn.out (h : StabIn rs n k (j + 1) ys) (hn : n ≤ 100) (hj : j + 1 ≤ k) (hk : k < n) (hc : ¬ c3 rs k - c3 rs (a1 ys j).toNat < 0) : Stab rs n (k + 1) ys := ⟨h.len, h.perm, almost_end h.alm (by
  have := mt (h.less_iff hn hj hk).1 hc
  omega), fun i h1 h2 => by
  by_cases e : i = j + 1
  · subst e; rw [h.at']; omega
  · have := h.lo i (by omega) e h2; omega, fun i h1 h2 => h.hi i (by omega) h2⟩
theorem StabIn.step (h : StabIn rs n k (j + 1) ys) (hn : n ≤ 100) (hj : j + 1 ≤ k) (hk : k < n) (hc : c3 rs k - c3 rs (a1 ys j).toNat < 0) : StabIn rs n k j (swapAt ys j) := by
  have hl : j + 1 < ys.length := by rw [h.len]; omega
  have hsw := fun i => swapAt_a ys j i hl
  refine ⟨by rw [swapAt_len]; exact h.len, (swapAt_perm ys j hl).trans h.perm, ?_, ?_, fun i h1 h2 h3 => ?_, fun i h1 h2 => ?_⟩
  · rw [keys_swap _ _ _ hl]
    exact almost_swap h.alm ((h.less_iff hn hj hk).2 hc) hj (by rw [keys_len, h.len]; exact hk)
  · rw [hsw, if_pos rfl, h.at']
  · rw [hsw, if_neg h2]
    by_cases e : i = j + 1
    · rw [if_pos e]; exact h.lo j (by omega) (by omega) (by omega)
    · rw [if_neg e]; exact h.lo i h1 e h3
  · rw [hsw, if_neg (by omega), if_neg (by omega)]
    exact h.hi i h1 h2
end
set_option maxHeartbeats 1000000 in
theorem netFn_any (A : Option Addr) (rs : List (Int × Int × Int)) (m cap i j p : Nat) (w : World) (hl : rs.length = m) (_hm : m ≤ 1048576) (hr : Rd w A (fl3 rs)) (hp : w.cell? ⟨p, 0, none⟩ = some (.slice A m cap)) (hi : i < m) (hj : j < m) (x y : Int) (hx : c3 rs i = x) (hy : c3 rs j = y) (x0 : 0 ≤ x) (x1 : x ≤ 99) (y0 : 0 ≤ y) (y1 : y ≤ 99) :
    Calls Try.prog 40 #[.int .i64 i, .int .i64 j, .pointer (some ⟨p, 0, none⟩)] w fun e w' => e = .returned (.int .i64 (x - y)) ∧ ∃ q, w' = w.drewN q := by
  obtain ⟨b, off, rfl, hb, hc⟩ := hr.at3 (k := i) (by omega)
  obtain ⟨_, _, c1⟩ := hc i (by omega)
  obtain ⟨_, _, c2⟩ := hc j (by omega)
  rw [hx] at c1
  rw [hy] at c2
  have hi1 : (i : Int) < (m : Int) := by omega
  have hj1 : (j : Int) < (m : Int) := by omega
  have hw := IntWalk.i64_in (x - y) (by omega)
  clear hc hx hy hl hr
  go_enter Try.func40, Try.ntmps40
  go_wp2
  go_quiet (fail)
  go_wp2
  go_ret
  exact ⟨rfl, _, rfl⟩
/-- what the sorted indexes are -/
def StabPost (w0 : World) (rs : List (Int × Int × Int)) (n : Nat) (A : Option Addr) (cap : Nat) (e : Ending) (w' : World) : Prop :=
  e = .returned (.tuple #[]) ∧ ∃ ys : List Int, ys.Perm ((List.range n).map fun (i : Nat) => (i : Int)) ∧ AscTo (keys rs ys) n ∧ w'.ownsRow w0.heap.size 3 1 (.slice A n cap) n (fl1 ys) ∧ Below w0.heap.size w0 w'
set_option maxRecDepth 100000 in
set_option maxHeartbeats 4000000 in
theorem stabIns_any (w0 : World) (B A : Option Addr) (rs : List (Int × Int × Int)) (n capB cap p : Nat) (w : World) (hl : rs.length = n) (hn : n ≤ 16) (hc3 : ∀ i, i < n → 0 ≤ c3 rs i ∧ c3 rs i ≤ 99) (hr : Rd w0 B (fl3 rs)) (hp : w0.cell? ⟨p, 0, none⟩ = some (.slice B n capB)) (hb : Below w0.heap.size w0 w)
    (hown : w.ownsRow w0.heap.size 3 1 (.slice A n cap) n (fl1 ((List.range n).map fun (i : Nat) => (i : Int)))) :
    Calls Try.prog 67 #[.slice A n cap, .int .i64 0, .int .i64 n, .func (.func 40) #[] #[.pointer (some ⟨p, 0, none⟩)]] w (StabPost w0 rs n A cap) := by
  have eg : ∀ args w, (callFunc 40 args).run Try.prog w = .ok (.enter 40 args) w := enters_of Try.func40 (by kernel_rfl) rfl
  have Hl := hideIt hl
  have Hc3 : Hid (∀ i, i < n → 0 ≤ c3 rs i ∧ c3 rs i ≤ 99) := hideIt hc3
  have hpl := World.block_lt_of_cell? w0 _ hp
  simp only at hpl
  clear hl hc3
  go_enter Try.func67, Try.ntmps67
  go_wp2
  go_loopw [8] (fun i wr => ∃ (k : Nat) (ys : List Int), i = .int .i64 k ∧ 1 ≤ k ∧ (k ≤ n ∨ n = 0 ∧ k = 1) ∧ Hid (Stab rs n k ys) ∧ wr.ownsRow w0.heap.size 3 1 (.slice A n cap) n (fl1 ys) ∧ Below w0.heap.size w0 wr) (fun i _ => n - (intOf i).toNat)
  case atStart => exact ⟨1, _, rfl, by omega, by omega, hideIt (Stab.first n), hown, hb⟩
  case round =>
    obtain ⟨k, ys, rfl, k1, hk, HS, hrow, hbw⟩ := hrel
    clear hown hb
    by_cases hlt : k < n
    · go_wp2
      go_loopw [9] (fun i wr => ∃ (j : Nat) (ys : List Int), i = .int .i64 j ∧ j ≤ k ∧ Hid (StabIn rs n k j ys) ∧ wr.ownsRow w0.heap.size 3 1 (.slice A n cap) n (fl1 ys) ∧ Below w0.heap.size w0 wr) (fun i _ => (intOf i).toNat)
      case atStart => exact ⟨k, ys, rfl, Nat.le_refl _, hideIt (HS.out.into hlt), hrow, hbw⟩
      case round =>
        clear hrow hbw HS
        obtain ⟨j, ys, rfl, hj, HS, hrow, hbw⟩ := hrel
        have Hly := hideIt HS.out.len
        by_cases hj0 : j = 0
        · subst hj0
          have hS2 := hideIt HS.out.out0
          go_wp2
          go_quiet (fail)
          go_wp2
          go_roundw
          case rel => exact ⟨k + 1, ys, by go_num, by omega, by omega, hS2, ownD hrow _, Below_dN hbw _⟩
          case measure => simp [intOf]; omega
        · obtain ⟨q, rfl⟩ : ∃ q, j = q + 1 := ⟨j - 1, by omega⟩
          obtain ⟨g, rfl, hbg, hlg⟩ := own_some hrow (by omega)
          have hxp := row1_a hrow (k := q) (by rw [Hly.out]; omega)
          have hxj := row1_a hrow (k := q + 1) (by rw [Hly.out]; omega)
          have hat := HS.out.at'
          have hlo := HS.out.lo q (by omega) (by omega) (by omega)
          rw [hat] at hxj
          obtain ⟨u, hu⟩ := Int.eq_ofNat_of_zero_le hlo.1
          rw [hu] at hxp
          have hun : u < n := by omega
          have huk : u < k := by omega
          have hw := IntWalk.i64_in (q : Int) (by omega)
          have hpn : (q : Int) < (n : Int) := by omega
          have hpn2 : (q : Int) + 1 < (n : Int) := by omega
          obtain ⟨x, hx⟩ : ∃ x, c3 rs k = x := ⟨_, rfl⟩
          obtain ⟨y, hy⟩ : ∃ y, c3 rs u = y := ⟨_, rfl⟩
          have hxb := Hc3.out k hlt
          have hyb := Hc3.out u hun
          rw [hx] at hxb
          rw [hy] at hyb
          obtain ⟨x0, x1⟩ := hxb
          obtain ⟨y0, y1⟩ := hyb
          have hp2 := (hbw.cell (p := ⟨p, 0, none⟩) hpl).trans hp
          have hrB := hr.below hbw (Nat.le_refl _)
          have Hcall := hideIt (fun (d : Nat) => netFn_any B rs n capB k u p (wr.drewN d) Hl.out (by omega) (hrB.below (Below_dN (Below.refl _ _) d) (Nat.le_refl _)) (((Below_dN (Below.refl wr.heap.size wr) d).cell (p := ⟨p, 0, none⟩) (World.block_lt_of_cell? wr _ hp2)).trans hp2) hlt hun x y hx hy x0 x1 y0 y1)
          by_cases hc : x - y < 0
          · have hst := row1_store (row1_store hrow (k := q + 1) (by rw [Hly.out]; omega) (a1 ys q)) (k := q) (by rw [List.length_set, Hly.out]; omega) (a1 ys (q + 1))
            have hst' : (((wr.setCell ⟨g, q + 1, none⟩ (.int .i64 (a1 ys q))).setCell ⟨g, q, none⟩ (.int .i64 (a1 ys (q + 1))))).ownsRow w0.heap.size 3 1 (.slice (some ⟨g, 0, none⟩) n cap) n (fl1 (swapAt ys q)) := hst
            rw [hat, hu] at hst'
            have HS2 := hideIt (HS.out.step (by omega) hj hlt (by rw [hu, Int.toNat_natCast, hx, hy]; exact hc))
            have hfr := fun j => hrow.frozenAt j
            have bs := (hbw.setCell (p := ⟨g, q + 1, none⟩) hbg (.int .i64 (u : Int))).setCell (p := ⟨g, q, none⟩) hbg (.int .i64 (k : Int))
            clear hst hrow hat hu hx hy hlo hp2 hrB
            go_wp2
            go_quiet ((go_at_fn 40; exact Calls.quiet_of (Hcall.out _)))
            go_wp2
            go_region
            go_wp2
            go_roundw
            case rel => exact ⟨q, swapAt ys q, by go_num, by omega, HS2, ownD hst' _, Below_dN bs _⟩
            case measure => simp [intOf]
          · have HS2 := hideIt (HS.out.out (by omega) hj hlt (by rw [hu, Int.toNat_natCast, hx, hy]; exact hc))
            clear hat hu hx hy hlo hp2 hrB
            go_wp2
            go_quiet ((go_at_fn 40; exact Calls.quiet_of (Hcall.out _)))
            go_wp2
            go_roundw
            case rel => exact ⟨k + 1, ys, by go_num, by omega, by omega, HS2, ownD hrow _, Below_dN hbw _⟩
            case measure => simp [intOf]; omega
    · go_wp2
      go_end0
      obtain rfl | ⟨rfl, rfl⟩ : k = n ∨ n = 0 ∧ k = 1 := by omega
      · exact ⟨rfl, ys, HS.out.perm, HS.out.asc, hrow, hbw⟩
      · exact ⟨rfl, ys, HS.out.perm, fun i j h1 h2 => by omega, hrow, hbw⟩
set_option maxRecDepth 100000 in
set_option maxHeartbeats 4000000 in
theorem stableCmp_any (w0 : World) (B A : Option Addr) (rs : List (Int × Int × Int)) (n capB cap p : Nat) (w : World) (hl : rs.length = n) (hn : n ≤ 16) (hc3 : ∀ i, i < n → 0 ≤ c3 rs i ∧ c3 rs i ≤ 99) (hr : Rd w0 B (fl3 rs)) (hp : w0.cell? ⟨p, 0, none⟩ = some (.slice B n capB)) (hb : Below w0.heap.size w0 w)
    (hown : w.ownsRow w0.heap.size 3 1 (.slice A n cap) n (fl1 ((List.range n).map fun (i : Nat) => (i : Int)))) :
    Calls Try.prog 59 #[.slice A n cap, .int .i64 n, .func (.func 40) #[] #[.pointer (some ⟨p, 0, none⟩)]] w (StabPost w0 rs n A cap) := by
  have Hl := hideIt hl
  have Hc3 : Hid (∀ i, i < n → 0 ≤ c3 rs i ∧ c3 rs i ≤ 99) := hideIt hc3
  have Hp := hideIt hp
  clear hl hc3 hp
  go_enter Try.func59, Try.ntmps59
  go_wp2
  go_loopw [7, 8] (fun a b wr => a = .int .i64 0 ∧ b = .int .i64 20 ∧ wr = w) (fun _ _ _ => 0)
  case atStart => exact ⟨rfl, rfl, rfl⟩
  case round =>
    obtain ⟨rfl, rfl, rfl⟩ := hrel
    have h20 : (n : Int) < 20 := by omega
    go_wp2_with fail
    refine (stabIns_any w0 B A rs n capB cap p _ Hl.out hn Hc3.out hr Hp.out hb hown).mono ?_
    rintro e w' ⟨rfl, hpost⟩
    have Hpost := hideIt hpost
    clear hpost
    go_wp2
    go_loopw [6] (fun a wr => a = .int .i64 20 ∧ wr = w') (fun _ _ => 0)
    case atStart => exact ⟨rfl, rfl⟩
    case round =>
      obtain ⟨rfl, rfl⟩ := hrel
      go_wp2
      go_end0
      exact ⟨rfl, Hpost.out⟩
set_option maxRecDepth 100000 in
set_option maxHeartbeats 4000000 in
theorem sortStable_any (w0 : World) (B A : Option Addr) (rs : List (Int × Int × Int)) (n capB cap p : Nat) (w : World) (hl : rs.length = n) (hn : n ≤ 16) (hc3 : ∀ i, i < n → 0 ≤ c3 rs i ∧ c3 rs i ≤ 99) (hr : Rd w0 B (fl3 rs)) (hp : w0.cell? ⟨p, 0, none⟩ = some (.slice B n capB)) (hb : Below w0.heap.size w0 w)
    (hown : w.ownsRow w0.heap.size 3 1 (.slice A n cap) n (fl1 ((List.range n).map fun (i : Nat) => (i : Int)))) :
    Calls Try.prog 39 #[.slice A n cap, .func (.func 40) #[] #[.pointer (some ⟨p, 0, none⟩)]] w (StabPost w0 rs n A cap) := by
  have Hp := hideIt hp
  clear hp
  go_enter Try.func39, Try.ntmps39
  go_wp2_with fail
  refine (stableCmp_any w0 B A rs n capB cap p _ hl hn hc3 hr Hp.out hb hown).mono ?_
  rintro e w' ⟨rfl, hpost⟩
  have Hpost := hideIt hpost
  clear hpost
  go_wp2
  go_end0
  exact ⟨rfl, Hpost.out⟩
end Go.Proofs.Ytdnjeahbnidefaa

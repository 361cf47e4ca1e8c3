/- Walks: shareOut with its closure, ShareMake. -/
import Derived.Test.YtfnpkbfgemcbaaaShLaw
import Derived.BigQuiet
import Derived.Deep.QuietTactic
namespace Go.Proofs.Ytfnpkbfgemcbaaa
open Go.RowKit

theorem sumF_in {f : Nat → Int} {M : Int} (h : ∀ i, i < 6 → 0 ≤ f i ∧ f i ≤ M) : ∀ k : Nat, k ≤ 6 → 0 ≤ sumF f k ∧ sumF f k ≤ M * k := by
  intro k
  induction k with
  | zero => intro _; simp [sumF]
  | succ k ih =>
    intro hk
    have h1 := ih (by omega)
    have h2 := h k (by omega)
    rw [sumF]
    push_cast
    rw [Int.mul_add]
    omega
theorem leftF_in {ms : List Int} {S a : Int} (hS : 1 ≤ S) (h0 : 0 ≤ a) (h1 : a ≤ 1000000) (hm : ∀ i, i < 6 → 0 ≤ a1 ms i ∧ a1 ms i ≤ S) (k : Nat) (hk : k ≤ 6) : -6000000 ≤ leftF ms S a k ∧ leftF ms S a k ≤ 1000000 := by
  have := sumF_in (f := baseF ms S a) (M := 1000000) (fun i hi => base_in hS h0 h1 (hm i hi)) k hk
  unfold leftF
  omega
theorem info_intS : (Try.prog.info? 3).map (fun i => (i.zero, i.size, i.bytes)) = some (some (.int .i64 0), 1, 8) := by kernel_rfl
set_option maxRecDepth 100000 in
set_option maxHeartbeats 4000000 in
theorem costFn_any (w0 : World) (B : Option Addr) (ms : List Int) (cap p1 p2 p3 : Nat) (S a : Int) (hl : ms.length = 6) (hr : Rd w0 B (fl1 ms)) (hm : ∀ i, i < 6 → 0 ≤ a1 ms i ∧ a1 ms i ≤ 1188) (hS : 1 ≤ S) (hS2 : S ≤ 1188) (h0 : 0 ≤ a) (h1 : a ≤ 1000000)
    (c1 : w0.cell? ⟨p1, 0, none⟩ = some (.int .i64 a)) (c2 : w0.cell? ⟨p2, 0, none⟩ = some (.slice B 6 cap)) (c3 : w0.cell? ⟨p3, 0, none⟩ = some (.int .i64 S)) : CostFn w0 (costF ms S a) 6 p1 p2 p3 := by
  intro w' hb i j hi hj
  obtain ⟨b, off, rfl, hbl, hc⟩ := hr.at1 (k := 0) (by omega)
  have d1 := (hb.cell (p := ⟨p1, 0, none⟩) (World.block_lt_of_cell? w0 _ c1)).trans c1
  have d2 := (hb.cell (p := ⟨p2, 0, none⟩) (World.block_lt_of_cell? w0 _ c2)).trans c2
  have d3 := (hb.cell (p := ⟨p3, 0, none⟩) (World.block_lt_of_cell? w0 _ c3)).trans c3
  have x1 := (hb.cell (p := ⟨b, off + i, none⟩) hbl).trans (hc i (by omega))
  have x2 := (hb.cell (p := ⟨b, off + j, none⟩) hbl).trans (hc j (by omega))
  obtain ⟨m1, m2⟩ := hm i hi
  obtain ⟨k1, k2⟩ := hm j hj
  have Hc := hideIt (show costF ms S a i - costF ms S a j = a * a1 ms j % S - a * a1 ms i % S by unfold costF restF; omega)
  obtain ⟨x, hx⟩ : ∃ x, a1 ms i = x := ⟨_, rfl⟩
  obtain ⟨y, hy⟩ : ∃ x, a1 ms j = x := ⟨_, rfl⟩
  rw [hx] at x1 m1 m2
  rw [hy] at x2 k1 k2
  rw [hx, hy] at Hc
  have hax : 0 ≤ a * x ∧ a * x ≤ 1188000000 := ⟨Int.mul_nonneg h0 m1, by have := Int.mul_le_mul h1 m2 m1 (by omega : (0 : Int) ≤ 1000000); omega⟩
  have hay : 0 ≤ a * y ∧ a * y ≤ 1188000000 := ⟨Int.mul_nonneg h0 k1, by have := Int.mul_le_mul h1 k2 k1 (by omega : (0 : Int) ≤ 1000000); omega⟩
  obtain ⟨ax0, ax1⟩ := hax
  obtain ⟨ay0, ay1⟩ := hay
  have hwx : IntKind.i64.wrap (a * x) = a * x := IntWalk.i64_in _ (by omega)
  have hwy : IntKind.i64.wrap (a * y) = a * y := IntWalk.i64_in _ (by omega)
  have hrx := Int.emod_nonneg (a * x) (show S ≠ 0 by omega)
  have hry := Int.emod_nonneg (a * y) (show S ≠ 0 by omega)
  have hrx2 := Int.emod_lt_of_pos (a * x) (show 0 < S by omega)
  have hry2 := Int.emod_lt_of_pos (a * y) (show 0 < S by omega)
  have htx : (a * x).tmod S = a * x % S := Int.tmod_eq_emod_of_nonneg ax0
  have hty : (a * y).tmod S = a * y % S := Int.tmod_eq_emod_of_nonneg ay0
  have hwr : IntKind.i64.wrap (a * y % S - a * x % S) = a * y % S - a * x % S := IntWalk.i64_in _ (by omega)
  have hi6 : (i : Int) < 6 := by omega
  have hj6 : (j : Int) < 6 := by omega
  have hS0 : (S == 0) = false := by simp; omega
  have hSn : ¬ S = 0 := by omega
  clear hx hy hc c1 c2 c3 hr hm
  go_enter Try.func64, Try.ntmps64
  go_wp2
  go_quiet (fail)
  go_wp2
  go_ret
  exact ⟨ret_int Hc.out.symm, _, rfl⟩
set_option maxRecDepth 100000 in
set_option maxHeartbeats 8000000 in
theorem shareOut_any (A : Option Addr) (ms : List Int) (cap : Nat) (S a : Int) (w : World) (hl : ms.length = 6) (hr : Rd w A (fl1 ms)) (hm : ∀ i, i < 6 → 0 ≤ a1 ms i ∧ a1 ms i ≤ S) (hS : 1 ≤ S) (hS2 : S ≤ 1188) (hall : sumF (a1 ms) 6 = S) (h0 : 0 ≤ a) (h1 : a ≤ 1000000) :
    Calls Try.prog 57 #[.slice A 6 cap, .int .i64 a] w fun e w' => ∃ R, ShareIs ms S a R ∧ RetS w 3 1 6 (fl1 R) e w' := by
  obtain ⟨b, off, rfl, hbl, hc⟩ := hr.at1 (k := 0) (by omega)
  have hB0 : Below w.heap.size w (((w.alloc (.cells #[.slice (some ⟨b, off, none⟩) 6 cap] 34)).alloc (.cells #[.int .i64 a] 3)).alloc (.cells #[.int .i64 0] 3)) :=
    (((Below.refl _ w).alloc (Nat.le_refl _) _).alloc (by simp) _).alloc (by simp; omega) _
  have x0 : Boxed (((w.alloc (.cells #[.slice (some ⟨b, off, none⟩) 6 cap] 34)).alloc (.cells #[.int .i64 a] 3)).alloc (.cells #[.int .i64 0] 3)) w.heap.size 34 (.slice (some ⟨b, off, none⟩) 6 cap) := ((Boxed.new w 34 _).alloc _).alloc _
  have x1 : Boxed (((w.alloc (.cells #[.slice (some ⟨b, off, none⟩) 6 cap] 34)).alloc (.cells #[.int .i64 a] 3)).alloc (.cells #[.int .i64 0] 3)) (w.heap.size + 1) 3 (.int .i64 a) := by
    have := (Boxed.new (w.alloc (.cells #[.slice (some ⟨b, off, none⟩) 6 cap] 34)) 3 (.int .i64 a)).alloc (.cells #[.int .i64 0] 3)
    simpa using this
  have x2 : Boxed (((w.alloc (.cells #[.slice (some ⟨b, off, none⟩) 6 cap] 34)).alloc (.cells #[.int .i64 a] 3)).alloc (.cells #[.int .i64 0] 3)) (w.heap.size + 1 + 1) 3 (.int .i64 0) := by
    have := Boxed.new ((w.alloc (.cells #[.slice (some ⟨b, off, none⟩) 6 cap] 34)).alloc (.cells #[.int .i64 a] 3)) 3 (.int .i64 0)
    simpa using this
  obtain ⟨i0, hi, hz0, hz1, hz2⟩ := info_parts info_intS
  have Hsum : Hid (∀ k, k ≤ 6 → 0 ≤ sumF (a1 ms) k ∧ sumF (a1 ms) k ≤ 1188 * k) := hideIt (sumF_in fun i hi => by have := hm i hi; omega)
  have Hl := hideIt hl
  have Hall := hideIt hall
  have Hm : Hid (∀ i, i < 6 → 0 ≤ a1 ms i ∧ a1 ms i ≤ S) := hideIt hm
  have Hc : Hid (∀ w', Below w.heap.size w w' → ∀ i, i < 6 → w'.cell? ⟨b, off + i, none⟩ = some (.int .i64 (a1 ms i))) := hideIt (fun w' hb i hi => (hb.cell (p := ⟨b, off + i, none⟩) hbl).trans (hc i (by omega)))
  have c0 := x0.cell
  clear hl hall hm hc
  go_enter Try.func57, Try.ntmps57
  go_wp2
  go_loopw [17] (fun i wr => ∃ k : Nat, k ≤ 6 ∧ i = .int .i64 k ∧ Boxed wr w.heap.size 34 (.slice (some ⟨b, off, none⟩) 6 cap) ∧ Boxed wr (w.heap.size + 1) 3 (.int .i64 a) ∧ Boxed wr (w.heap.size + 1 + 1) 3 (.int .i64 (sumF (a1 ms) k)) ∧ Below w.heap.size w wr) (fun i _ => 6 - (intOf i).toNat)
  case atStart => exact ⟨0, by omega, rfl, x0, x1, x2, hB0⟩
  case round =>
    obtain ⟨k, hk, rfl, y0, y1, y2, bd⟩ := hrel
    clear x0 x1 x2 hB0 c0
    have c2 := y2.cell
    have g2 := y2.frozen
    by_cases hlt : k < 6
    · have hck := Hc.out _ bd k hlt
      have hz := Hsum.out k hk
      have hx := Hm.out k hlt
      have Hst := hideIt (show sumF (a1 ms) (k + 1) = sumF (a1 ms) k + a1 ms k from rfl)
      obtain ⟨z, hze⟩ : ∃ z, sumF (a1 ms) k = z := ⟨_, rfl⟩
      obtain ⟨x, hxe⟩ : ∃ x, a1 ms k = x := ⟨_, rfl⟩
      rw [hze] at hz c2 y2 Hst
      rw [hxe] at hx hck Hst
      have hw := IntWalk.i64_in (z + x) (by omega)
      have hk6 : (k : Int) < 6 := by omega
      clear hze hxe
      go_wp2
      go_roundw
      case rel => exact ⟨k + 1, by omega, by go_num, boxed_far y0 (by simp; omega) _, boxed_far y1 (by simp) _, by rw [Hst.out]; exact boxed_set y2 _, bd.setCell (p := ⟨w.heap.size + 1 + 1, 0, none⟩) (by simp; omega) _⟩
      case measure => simp [intOf]; omega
    · obtain rfl : k = 6 := by omega
      rw [Hall.out] at c2 y2
      obtain ⟨w1, hw1⟩ : ∃ w1, w1 = wr := ⟨_, rfl⟩
      subst hw1
      have c0 := y0.cell
      have l2 := y2.lt
      have hs1 := bd.size
      go_wp2_with (first
        | (refine wpList_make_full _ rfl _ _ _ rfl w1.heap.size 3 i0 _ 1 Try.underlying34 hi hz0 hz1 .i64 .i64 _ _ 6 rfl rfl rfl rfl (by rw [hz2]; omega) (by unfold maxLen; omega) (Nat.le_refl w1.heap.size) ?_; intro w2 hown2 hgrow2; have B2 : Below w1.heap.size w1 w2 := (Below.refl _ _).grown hgrow2 (Nat.le_refl _) (by simp); have c02 := (boxed_below y0 B2 (by omega)).cell)
        | (refine wpList_make_full _ rfl _ _ _ rfl w2.heap.size 3 i0 _ 1 Try.underlying34 hi hz0 hz1 .i64 .i64 _ _ 6 rfl rfl rfl rfl (by rw [hz2]; omega) (by unfold maxLen; omega) (Nat.le_refl w2.heap.size) ?_; intro w3 hown3 hgrow3; have B3 : Below w2.heap.size w2 w3 := (Below.refl _ _).grown hgrow3 (Nat.le_refl _) (by simp); have B13 := B2.trans (B3.mono B2.size); have c03 := (boxed_below y0 B13 (by omega)).cell; have c13 := (boxed_below y1 B13 (by omega)).cell))
      have hs12 : w1.heap.size < w2.heap.size := (hown2.lt w1.heap.size rfl).2
      have hsh0 : w3.ownsRow w1.heap.size 3 1 (.slice (some ⟨w1.heap.size, 0, none⟩) 6 6) 6 (fl1 (fillF (baseF ms S a) 6 0)) := by rw [fillF_zero, ← made1]; exact own_below hown2 B3 (Nat.le_refl _)
      have hor0 : w3.ownsRow w2.heap.size 3 1 (.slice (some ⟨w2.heap.size, 0, none⟩) 6 6) 6 (fl1 (fillF (fun i => (i : Int)) 6 0)) := by rw [fillF_zero, ← made1]; exact hown3
      have hl0 : leftF ms S a 0 = a := by simp [leftF, sumF]
      have hne12 : (Value.slice (some ⟨w2.heap.size, 0, none⟩) 6 6).ownBlock ≠ (Value.slice (some ⟨w1.heap.size, 0, none⟩) 6 6).ownBlock := fun e => by have h : w2.heap.size = w1.heap.size := Option.some.inj e; omega
      have Hne := hideIt hne12
      have hcost : Hid (CostFn w1 (costF ms S a) 6 (w.heap.size + 1) w.heap.size (w.heap.size + 1 + 1)) := hideIt (costFn_any w1 _ ms cap _ _ _ S a Hl.out (hr.below bd (Nat.le_refl _)) (fun i hi => by have := Hm.out i hi; omega) hS hS2 h0 h1 y1.cell y0.cell y2.cell)
      clear hown2 hown3 hgrow2 hgrow3 hne12 B2 B3 c02 c03 c13 c0 c2 g2
      go_loopw [10, 34] (fun l i wr => ∃ k : Nat, k ≤ 6 ∧ i = .int .i64 k ∧ l = .int .i64 (leftF ms S a k) ∧ wr.ownsRow w1.heap.size 3 1 (.slice (some ⟨w1.heap.size, 0, none⟩) 6 6) 6 (fl1 (fillF (baseF ms S a) 6 k)) ∧ wr.ownsRow w2.heap.size 3 1 (.slice (some ⟨w2.heap.size, 0, none⟩) 6 6) 6 (fl1 (fillF (fun i => (i : Int)) 6 k)) ∧ Below w1.heap.size w1 wr) (fun _ i _ => 6 - (intOf i).toNat)
      case atStart => exact ⟨0, by omega, rfl, by rw [hl0], hsh0, hor0, B13⟩
      case round =>
        obtain ⟨k, hk, rfl, rfl, hsh, hor, be⟩ := hrel
        clear hsh0 hor0 hl0 B13
        have c0 := (boxed_below y0 be (by omega)).cell
        have c1 := (boxed_below y1 be (by omega)).cell
        have c2 := (boxed_below y2 be l2).cell
        by_cases hlt : k < 6
        · have hck := Hc.out _ (bd.trans (be.mono hs1)) k hlt
          have hx := Hm.out k hlt
          have hb := base_in hS h0 h1 hx
          have Hlf := hideIt (show leftF ms S a (k + 1) = leftF ms S a k - baseF ms S a k by unfold leftF; rw [sumF]; omega)
          have hlf := leftF_in (ms := ms) (a := a) hS h0 h1 Hm.out k hk
          have hrow1 := row1_store hsh (k := k) (by rw [fillF_len]; exact hlt) (baseF ms S a k)
          rw [fillF_set _ hlt] at hrow1
          have hork := hor.kept (hsh.stored k (.int .i64 (baseF ms S a k))).2 (.inr Hne.out)
          have hca1 := row1_a hsh (k := k) (by rw [fillF_len]; exact hlt)
          have hca2 := row1_a hork (k := k) (by rw [fillF_len]; exact hlt)
          rw [fillF_at _ hlt, if_neg (by omega)] at hca1 hca2
          have hfr1 := fun j => hsh.frozenAt j
          have hfr2 := fun j => hork.frozenAt j
          have hrow2 := row1_store hork (k := k) (by rw [fillF_len]; exact hlt) (k : Int)
          rw [fillF_set (fun i => (i : Int)) hlt] at hrow2
          have hrow3 := hrow1.kept (hork.stored k (.int .i64 (k : Int))).2 (.inr (fun e => Hne.out e.symm))
          have hcl := row1_a hrow3 (k := k) (by rw [fillF_len]; exact hlt)
          rw [fillF_at _ hlt, if_pos (by omega)] at hcl
          have hquo : (a * a1 ms k).tdiv S = baseF ms S a k := Int.tdiv_eq_ediv_of_nonneg (Int.mul_nonneg h0 hx.1)
          have hax : 0 ≤ a * a1 ms k ∧ a * a1 ms k ≤ 1188000000 := ⟨Int.mul_nonneg h0 hx.1, by have := Int.mul_le_mul h1 hx.2 hx.1 (by omega : (0 : Int) ≤ 1000000); omega⟩
          obtain ⟨v, hve⟩ : ∃ v, baseF ms S a k = v := ⟨_, rfl⟩
          obtain ⟨x, hxe⟩ : ∃ x, a1 ms k = x := ⟨_, rfl⟩
          obtain ⟨l, hle⟩ : ∃ x, leftF ms S a k = x := ⟨_, rfl⟩
          rw [hxe, hve] at hquo
          rw [hxe] at hax hck hx
          rw [hve] at hb hcl hrow1 hrow2 hrow3 hfr2 hca2 Hlf
          rw [hle] at hlf Hlf
          obtain ⟨ax0, ax1⟩ := hax
          have hwx : IntKind.i64.wrap (a * x) = a * x := IntWalk.i64_in _ (by omega)
          have hwv : IntKind.i64.wrap v = v := IntWalk.i64_in _ (by omega)
          have hwl : IntKind.i64.wrap (l - v) = l - v := IntWalk.i64_in _ (by omega)
          have hk6 : (k : Int) < 6 := by omega
          have hS0 : (S == 0) = false := by simp; omega
          have hSn : ¬ S = 0 := by omega
          have bf := (be.setCell (p := ⟨w1.heap.size, k, none⟩) (Nat.le_refl _) (.int .i64 v)).setCell (p := ⟨w2.heap.size, k, none⟩) (by simp; omega) (.int .i64 (k : Int))
          rw [hle]
          clear hve hxe hle hsh hor hork hrow1
          go_wp2
          go_roundw
          case rel => exact ⟨k + 1, by omega, by go_num, by rw [Hlf.out], hrow3, hrow2, bf⟩
          case measure => simp [intOf]; omega
        · obtain rfl : k = 6 := by omega
          obtain ⟨L0, L5, _⟩ := left_in (ms := ms) (a := a) hS Hall.out
          obtain ⟨L, hL⟩ := Int.eq_ofNat_of_zero_le L0
          rw [hL] at L5
          have HL := hideIt (show (leftF ms S a 6).toNat = L by omega)
          rw [fillF_end] at hsh hor
          obtain ⟨w4, hw4⟩ : ∃ w4, w4 = wr := ⟨_, rfl⟩
          subst hw4
          rw [hL]
          have hLi : (L : Int) ≤ 6 := by omega
          have hL0 : (0 : Int) ≤ (L : Int) := by omega
          clear L0 hL c0 c1 c2
          go_wp2_with fail
          refine (sortStableF_any w1 (some ⟨w2.heap.size, 0, none⟩) (costF ms S a) 6 6 (w.heap.size + 1) w.heap.size (w.heap.size + 1 + 1) _ (by omega) hcost.out be (own_base hor (by omega))).mono ?_
          rintro e w5 ⟨rfl, ys, hpm, hasc, ho5, hb5, hg5⟩
          have hsh5 := hsh.kept hg5 (.inr (fun e => Hne.out e.symm))
          obtain ⟨_, hyin⟩ := perm_in hpm
          have Hyl := hideIt (perm_in hpm).1
          have Hyi : Hid (∀ i, i < 6 → 0 ≤ a1 ys i ∧ a1 ys i < 6) := hideIt hyin
          have Hsh : Hid (ShareIs ms S a (bumpTo ((List.range 6).map (baseF ms S a)) ys L)) := hideIt ⟨ys, hpm, hasc, by rw [HL.out]⟩
          have Hin : Hid (∀ k : Nat, InR 0 (1000000 + k) (bumpTo ((List.range 6).map (baseF ms S a)) ys k)) := hideIt (bumpTo_in (fun i hi => by
            have hi6 : i < 6 := by simpa using hi
            rw [← fillF_end, fillF_at _ hi6, if_pos hi6]
            exact base_in hS h0 h1 (Hm.out i hi6)) (by omega))
          obtain ⟨Bs, hBs⟩ : ∃ Bs, (List.range 6).map (baseF ms S a) = Bs := ⟨_, rfl⟩
          have HBl := hideIt (show Bs.length = 6 by rw [← hBs]; simp)
          rw [hBs] at hsh5 Hsh Hin
          clear hpm hasc hyin hsh hor be hg5 hcost hBs
          go_wp2
          go_loopw [65] (fun i wv => ∃ k : Nat, k ≤ L ∧ i = .int .i64 k ∧ wv.ownsRow w1.heap.size 3 1 (.slice (some ⟨w1.heap.size, 0, none⟩) 6 6) 6 (fl1 (bumpTo Bs ys k)) ∧ wv.ownsRow w1.heap.size 3 1 (.slice (some ⟨w2.heap.size, 0, none⟩) 6 6) 6 (fl1 ys) ∧ Below w1.heap.size w1 wv) (fun i _ => L - (intOf i).toNat)
          case atStart => exact ⟨0, by omega, rfl, hsh5, ho5, hb5⟩
          case round =>
            obtain ⟨k, hk, rfl, hsh, hor, be⟩ := hrel
            clear hsh5 ho5 hb5
            by_cases hlt : k < L
            · obtain ⟨y0', y6⟩ := Hyi.out k (by omega)
              obtain ⟨u, hu⟩ := Int.eq_ofNat_of_zero_le y0'
              have hck := row1_a hor (k := k) (by rw [Hyl.out]; omega)
              rw [hu] at hck y6
              have hul : u < (bumpTo Bs ys k).length := by rw [bumpTo_len, HBl.out]; omega
              have hcu := row1_a hsh hul
              have htu := Hin.out k u hul
              have Hst := hideIt (show bumpTo Bs ys (k + 1) = (bumpTo Bs ys k).set u (a1 (bumpTo Bs ys k) u + 1) by rw [bumpTo, hu, Int.toNat_natCast])
              obtain ⟨t, hte⟩ : ∃ t, a1 (bumpTo Bs ys k) u = t := ⟨_, rfl⟩
              rw [hte] at hcu htu Hst
              obtain ⟨t0, t1⟩ := htu
              have hrow := row1_store hsh hul (t + 1)
              rw [← Hst.out] at hrow
              have hfr := fun j => hsh.frozenAt j
              have hor2 := hor.kept (hsh.stored u (.int .i64 (t + 1))).2 (.inr Hne.out)
              have hwt : IntKind.i64.wrap (t + 1) = t + 1 := IntWalk.i64_in _ (by omega)
              have hu6 : (u : Int) < 6 := y6
              have hkL : (k : Int) < (L : Int) := by omega
              have bf := be.setCell (p := ⟨w1.heap.size, u, none⟩) (Nat.le_refl _) (.int .i64 (t + 1))
              clear hte hu hsh hor hul y0'
              go_wp2
              go_roundw
              case rel => exact ⟨k + 1, by omega, by go_num, hrow, hor2, bf⟩
              case measure => simp [intOf]; omega
            · obtain rfl : k = L := by omega
              go_wp2
              go_ret
              exact ⟨_, Hsh.out, _, _, rfl, own_base hsh hs1, bd.trans (be.mono hs1)⟩
theorem cntAt_in (i : Nat) : ∀ (ps : List (Int × Int)), (∀ p ∈ ps, pOk p = true) → 0 ≤ cntAt i ps ∧ cntAt i ps ≤ sumB ps := by
  intro ps
  induction ps with
  | nil => intro _; simp [cntAt, sumB]
  | cons p ps ih =>
    intro h
    have h1 := ih (fun q hq => h q (by simp [hq]))
    have h2 := h p (by simp)
    simp only [pOk, Bool.and_eq_true, decide_eq_true_eq] at h2
    simp only [cntAt, sumB, List.foldr_cons] at *
    split <;> omega
theorem miles_all {ps : List (Int × Int)} (hv : partsValid ps = true) : (∀ i, i < 6 → 0 ≤ a1 (miles ps) i ∧ a1 (miles ps) i ≤ sumB ps) ∧ sumF (a1 (miles ps)) 6 = sumB ps ∧ 1 ≤ sumB ps ∧ sumB ps ≤ 1188 := by
  have hp := hv
  simp only [partsValid, Bool.and_eq_true, List.all_eq_true] at hp
  have h1 := length_le_sum hv
  have h2 := (partsValid_len hv).1
  have h3 := sumB_owners hv
  have h4 := owners_le hv
  exact ⟨fun i hi => by rw [miles_at i hi]; exact cntAt_in i ps hp.2, by rw [sumF_six _ (miles_len ps), sum1_miles hv], by omega, by omega⟩
set_option maxRecDepth 100000 in
set_option maxHeartbeats 1000000 in
theorem implShareMake_t (A : Option Addr) (ps : List (Int × Int)) (n cap : Nat) (a : Int) (w : World) (hl : ps.length = n) (hn : n ≤ 1048576) (hr : Rd w A (fl2 ps)) (hv : partsValid ps = true) (h0 : 0 ≤ a) (h1 : a ≤ 1000000) :
    Calls Try.prog 30 #[.slice A n cap, .int .i64 a] w fun e w' => ∃ R, ShareIs (miles ps) (sumB ps) a R ∧ RetSB w 3 1 6 (fl1 R) true e w' := by
  have Hv := hideIt hv
  clear hv
  obtain ⟨m1, m2, m3, m4⟩ := miles_all Hv.out
  go_enter Try.func30, Try.ntmps30
  go_wp2_with fail
  refine (implPartsMiles_any _ _ _ _ _ hl hn hr).mono ?_
  rw [Hv.out, partsMiles_t Hv.out, miles_len]
  rintro e w1 ⟨A1, c1, rfl, ho1, hb1⟩
  go_wp2_with fail
  refine (amountValid_t _ _ h0 h1).mono ?_
  rintro e w2 ⟨rfl, rfl⟩
  go_wp2_with fail
  refine (shareOut_any _ (miles ps) _ (sumB ps) a _ (miles_len ps) (Rd.of_own ho1) m1 m3 m4 m2 h0 h1).mono ?_
  rintro e w2 ⟨R, hR, A2, c2, rfl, ho2, hb2⟩
  go_wp2_with fail
  go_ret2
  exact ⟨R, hR, _, _, rfl, own_base ho2 hb1.size, hb1.trans (hb2.mono hb1.size)⟩
end Go.Proofs.Ytfnpkbfgemcbaaa

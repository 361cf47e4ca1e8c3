/- Walks: l1Far, RoadsFar of the reference. -/
import Derived.Test.YtdnjeahbnidefaaRo5
import Derived.Test.YtdnjeahbnidefaaGA
import Derived.StillTailTactics
namespace Go.Proofs.Ytdnjeahbnidefaa
open Go.RowKit

theorem info_intF : (Try.prog.info? 3).map (fun i => (i.zero, i.size, i.bytes)) = some (some (.int .i64 0), 1, 8) := by kernel_rfl
theorem own_drewR {w : World} {base t size n : Nat} {v : Value} {xs : List Value} (h : w.ownsRow base t size v n xs) : w.drew.ownsRow base t size v n xs := h
/-- what l1Far returns -/
def FarRow (w : World) (n : Nat) (out : List Int) (e : Ending) (w' : World) : Prop :=
  ∃ g c, e = .returned (.slice (some ⟨g, 0, none⟩) n c) ∧ w'.ownsRow w.heap.size 3 1 (.slice (some ⟨g, 0, none⟩) n c) n (fl1 out) ∧ Below w.heap.size w w'
/-- one road's turn in two steps -/
theorem relax_two {out out1 out2 : List Int} {rs : List (Int × Int × Int)} {k x y : Nat} {u v : Int} (hx : a3 rs k = x) (hy : b3 rs k = y) (h1 : out1 = out.set x u) (hu : u = min (a1 out x) (a1 out y + c3 rs k)) (h2 : out2 = out1.set y v) (hv : v = min (a1 out1 y) (a1 out1 x + c3 rs k)) : relax out rs k = out2 := by
  subst h1; subst h2
  rw [hv, hu, relax, hx, hy, Int.toNat_natCast, Int.toNat_natCast]

set_option maxRecDepth 100000 in
set_option maxHeartbeats 4000000 in
theorem l1Far_any (n : Nat) (A : Option Addr) (rs : List (Int × Int × Int)) (m cap a : Nat) (w : World) (hl : rs.length = m) (hr : Rd w A (fl3 rs)) (hv : RV n rs) (ha : a < n) :
    Calls Try.prog 53 #[.int .i64 n, .slice A m cap, .int .i64 a] w (FarRow w n (farList n rs a)) := by
  have Hl := hideIt hl
  have Hv : Hid (RV n rs) := hideIt hv
  have n8 := hv.n8
  have m16 := hv.l16
  rw [hl] at m16
  obtain ⟨i0, hi, hz0, hz1, hz2⟩ := info_parts info_intF
  clear hl hv
  have ho0 := own_empty w 3 1
  have hb0 := (Below.refl w.heap.size w).alloc (Nat.le_refl _) (.cells #[] 3)
  go_enter Try.func53, Try.ntmps53
  go_wp2
  go_loopw [7, 8] (fun o i wr => ∃ (k b c : Nat), k ≤ n ∧ i = .int .i64 k ∧ o = .slice (some ⟨b, 0, none⟩) k c ∧ wr.ownsRow w.heap.size 3 1 (.slice (some ⟨b, 0, none⟩) k c) k (fl1 (List.replicate k 100000)) ∧ Below w.heap.size w wr) (fun _ i _ => n - (intOf i).toNat)
  case atStart => exact ⟨0, w.heap.size, 0, by omega, rfl, rfl, ho0, hb0⟩
  case round =>
    obtain ⟨k, b, c, hk, rfl, rfl, hrow, hbw⟩ := hrel
    have hsz := hbw.size
    by_cases hlt : k < n
    · go_wp2_with (at_builtin; refine wpList_append_own _ rfl (.tmp 18) (.tmp 19) 26 rfl w.heap.size 3 i0 _ 1 8 Try.underlying26 hi hz0 hz1 hz2 rfl (by decide) _ _ _ rfl (hrow.alloc _) ⟨wr.heap.size, 0, none⟩ 1 1 [.int .i64 100000] rfl rfl (cell_one_new _ _ _) (by simp [Value.oneCell']) (by unfold maxLen; omega) (by omega) (by simp; omega) ?_; intro v' wn hown' hgrow hnn; clear hnn)
      obtain ⟨A', c', rfl⟩ := own_form hown'
      obtain ⟨b', rfl, _, _⟩ := own_some hown' (by omega)
      have Hfl := hideIt (show fl1 (List.replicate (k + 1) 100000) = fl1 (List.replicate k 100000) ++ [.int .i64 100000] by rw [rep_snoc, fl1_snoc])
      have bN : Below w.heap.size w wn := (hbw.alloc hsz _).grown hgrow (by simp; exact Nat.le_succ_of_le hsz) (fun g hg => (hrow.lt g hg).1)
      clear hgrow
      go_wp2
      go_roundw
      case rel => exact ⟨k + 1, b', c', by omega, by go_num, rfl, by rw [Hfl.out]; exact hown', bN⟩
      case measure => simp [intOf]; omega
    · obtain rfl : k = n := by omega
      have hrow2 := row1_store hrow (k := a) (by rw [List.length_replicate]; exact ha) 0
      have hbA := hbw.setCell (p := ⟨b, a, none⟩) (hrow.lt b rfl).1 (.int .i64 0)
      have hfr := fun j => hrow.frozenAt j
      have hak : (a : Int) < (k : Int) := by omega
      have hcell := row1_a hrow (k := a) (by rw [List.length_replicate]; exact ha)
      have hblk := (hrow.lt b rfl).1
      clear hrow hbw ho0 hb0
      go_wp2
      go_loopw [9] (fun i wr => ∃ (t : Nat), t ≤ k ∧ i = .int .i64 t ∧ wr.ownsRow w.heap.size 3 1 (.slice (some ⟨b, 0, none⟩) k c) k (fl1 (farRound rs (farStart k a) t)) ∧ Below w.heap.size w wr) (fun i _ => k - (intOf i).toNat)
      case atStart => exact ⟨0, by omega, rfl, hrow2, hbA⟩
      case round =>
        obtain ⟨t, ht, rfl, hrow, hbw⟩ := hrel
        have Hok := hideIt (Hv.out.far_ok ha t).1
        by_cases hlt2 : t < k
        · go_wp2
          go_loopw [10] (fun i wv => ∃ (j : Nat), j ≤ m ∧ i = .int .i64 j ∧ wv.ownsRow w.heap.size 3 1 (.slice (some ⟨b, 0, none⟩) k c) k (fl1 (relaxTo rs (farRound rs (farStart k a) t) j)) ∧ Below w.heap.size w wv) (fun i _ => m - (intOf i).toNat)
          case atStart => exact ⟨0, by omega, rfl, hrow, hbw⟩
          case round =>
            obtain ⟨j, hj, rfl, hrow3, hbv⟩ := hrel
            by_cases hlt3 : j < m
            · have hkl : j < rs.length := by rw [Hl.out]; exact hlt3
              obtain ⟨O, hO⟩ : ∃ O, relaxTo rs (farRound rs (farStart k a) t) j = O := ⟨_, rfl⟩
              have hok := (Hv.out.relaxTo_ok Hok.out j (by omega)).1
              have HO := hideIt hO
              rw [hO] at hrow3 hok
              obtain ⟨hOl, hOv⟩ := hok
              obtain ⟨g0, g1, g2, g3, g4⟩ := Hv.out.road j hkl
              obtain ⟨br, offr, rfl, hbr, hc⟩ := hr.at3 hkl
              obtain ⟨hx, hy, hz⟩ := hc j hkl
              rw [← hbv.cell (p := ⟨br, offr + j * 3, none⟩) hbr] at hx
              rw [← hbv.cell (p := ⟨br, offr + j * 3 + 1, none⟩) hbr] at hy
              rw [← hbv.cell (p := ⟨br, offr + j * 3 + 2, none⟩) hbr] at hz
              obtain ⟨x, hax⟩ : ∃ x : Nat, a3 rs j = x := ⟨(a3 rs j).toNat, by omega⟩
              obtain ⟨y, hby⟩ : ∃ y : Nat, b3 rs j = y := ⟨(b3 rs j).toNat, by omega⟩
              obtain ⟨z, hcz⟩ : ∃ z, c3 rs j = z := ⟨_, rfl⟩
              have hxk : x < k := by omega
              have hyk : y < k := by omega
              have hxy : x ≠ y := by omega
              obtain ⟨⟨px0, px1⟩, _⟩ := hOv x hxk
              obtain ⟨⟨py0, py1⟩, _⟩ := hOv y hyk
              obtain ⟨px, hPx⟩ : ∃ v, a1 O x = v := ⟨_, rfl⟩
              obtain ⟨py, hPy⟩ : ∃ v, a1 O y = v := ⟨_, rfl⟩
              rw [hPx] at px0 px1
              rw [hPy] at py0 py1
              rw [hcz] at hz g3 g4
              rw [hby] at hy
              rw [hax] at hx
              obtain ⟨u, hu⟩ : ∃ u, min px (py + z) = u := ⟨_, rfl⟩
              obtain ⟨v, hvv⟩ : ∃ v, min py (u + z) = v := ⟨_, rfl⟩
              have hO1 : (O.set x u).length = k := by rw [List.length_set, hOl]
              have Hrel := hideIt (relax_two (out := O) (v := v) hax hby rfl (by rw [hPx, hPy, hcz, hu]) rfl (by rw [a1_set _ (by omega), if_neg hxy, a1_set _ (by omega), if_pos rfl, hPy, hcz, hvv]))
              have hrow0 := hrow3.alloc (.cells #[.int .i64 x, .int .i64 y, .int .i64 z] 32)
              have hb0 := hbv.alloc hbv.size (.cells #[.int .i64 x, .int .i64 y, .int .i64 z] 32)
              have hbox0 := heap_alloc_new wr (.cells #[.int .i64 x, .int .i64 y, .int .i64 z] 32)
              have qs : (wr.alloc (.cells #[.int .i64 x, .int .i64 y, .int .i64 z] 32)).heap.size = wr.heap.size + 1 := by simp
              obtain ⟨B, hB⟩ : ∃ B, B = wr.heap.size := ⟨_, rfl⟩
              obtain ⟨W0, hW0⟩ : ∃ W0, W0 = wr.alloc (.cells #[.int .i64 x, .int .i64 y, .int .i64 z] 32) := ⟨_, rfl⟩
              rw [← hW0] at hrow0 hb0 hbox0 qs
              rw [← hB] at hbox0 qs
              have hbB : b ≠ B := by have := (hrow3.lt b rfl).2; omega
              have HW0 := hideIt hW0
              have HB := hideIt hB
              have hpx := row1_a hrow0 (k := x) (by omega)
              have hpy := row1_a hrow0 (k := y) (by omega)
              rw [hPx] at hpx
              rw [hPy] at hpy
              have r0 : W0.cell? ⟨B, 0, none⟩ = some (.int .i64 x) := cell_of_row _ _ 0 _ _ _ hbox0
              have r1 : W0.cell? ⟨B, 1, none⟩ = some (.int .i64 y) := cell_of_row _ _ 1 _ _ _ hbox0
              have r2 : W0.cell? ⟨B, 2, none⟩ = some (.int .i64 z) := cell_of_row _ _ 2 _ _ _ hbox0
              have hfr0 := fun j => hrow0.frozenAt j
              have hrow1 := own_drewR (row1_store hrow0 (k := x) (by omega) u)
              have hb1 := (hb0.setCell (p := ⟨b, x, none⟩) hblk (.int .i64 u)).drew
              have hbox1 : (W0.setCell ⟨b, x, none⟩ (.int .i64 u)).drew.heap[B]? = _ := (Below.heap_setCell W0 ⟨b, x, none⟩ (.int .i64 u) B (fun e => hbB e.symm)).trans hbox0
              obtain ⟨W1, hW1⟩ : ∃ W1, W1 = (W0.setCell ⟨b, x, none⟩ (.int .i64 u)).drew := ⟨_, rfl⟩
              rw [← hW1] at hrow1 hb1 hbox1
              have HW1 := hideIt hW1
              have hqx := row1_a hrow1 (k := x) (by omega)
              have hqy := row1_a hrow1 (k := y) (by omega)
              rw [a1_set _ (by omega), if_pos rfl] at hqx
              rw [a1_set _ (by omega), if_neg hxy, hPy] at hqy
              have q0 : W1.cell? ⟨B, 0, none⟩ = some (.int .i64 x) := cell_of_row _ _ 0 _ _ _ hbox1
              have q1 : W1.cell? ⟨B, 1, none⟩ = some (.int .i64 y) := cell_of_row _ _ 1 _ _ _ hbox1
              have q2 : W1.cell? ⟨B, 2, none⟩ = some (.int .i64 z) := cell_of_row _ _ 2 _ _ _ hbox1
              have hfr1 := fun j => hrow1.frozenAt j
              have hrowC := own_drewR (row1_store hrow1 (k := y) (by omega) v)
              have hbC := (hb1.setCell (p := ⟨b, y, none⟩) hblk (.int .i64 v)).drew
              have hxk2 : (x : Int) < (k : Int) := by omega
              have hyk2 : (y : Int) < (k : Int) := by omega
              have hjm : (j : Int) < (m : Int) := by omega
              have hs1 := IntWalk.i64_in (py + z) (by omega)
              have hxw : IntKind.i64.wrap (x : Int) = (x : Int) := IntWalk.i64_in _ (by omega)
              have hyw : IntKind.i64.wrap (y : Int) = (y : Int) := IntWalk.i64_in _ (by omega)
              have hs2 := IntWalk.i64_in (u + z) (by omega)
              have Hnx := hideIt (show relaxTo rs (farRound rs (farStart k a) t) (j + 1) = (O.set x u).set y v by rw [relaxTo, hO]; exact Hrel.out)
              clear hc hkl hO hOl hOv hax hby hcz hPx hPy hO1 hrow hbw hrow0 hrow1 hrow3 hbv hb0 hb1 hbox0 hbox1 hW0 hW1 hB hbB
              rcases Int.lt_trichotomy px (py + z) with hc1 | hc1 | hc1
              · obtain rfl : px = u := by omega
                rcases Int.lt_trichotomy py (px + z) with hc2 | hc2 | hc2
                · obtain rfl : py = v := by omega
                  clear hu hvv
                  go_wp2
                  rw [← HB.out, ← HW0.out]
                  go_still_tail 18, (by kernel_rfl)
                  go_wp2
                  rw [← HW1.out]
                  go_still_tail 18, (by kernel_rfl)
                  go_wp2
                  go_roundw
                  case rel => exact ⟨j + 1, by omega, by go_num, by rw [Hnx.out]; exact hrowC, hbC⟩
                  case measure => simp [intOf]; omega
                · subst hc2
                  obtain rfl : px + z = v := by omega
                  clear hu hvv
                  go_wp2
                  rw [← HB.out, ← HW0.out]
                  go_still_tail 18, (by kernel_rfl)
                  go_wp2
                  rw [← HW1.out]
                  go_still_tail 18, (by kernel_rfl)
                  go_wp2
                  go_roundw
                  case rel => exact ⟨j + 1, by omega, by go_num, by rw [Hnx.out]; exact hrowC, hbC⟩
                  case measure => simp [intOf]; omega
                · obtain rfl : px + z = v := by omega
                  clear hu hvv
                  go_wp2
                  rw [← HB.out, ← HW0.out]
                  go_still_tail 18, (by kernel_rfl)
                  go_wp2
                  rw [← HW1.out]
                  go_still_tail 18, (by kernel_rfl)
                  go_wp2
                  go_roundw
                  case rel => exact ⟨j + 1, by omega, by go_num, by rw [Hnx.out]; exact hrowC, hbC⟩
                  case measure => simp [intOf]; omega
              · subst hc1
                obtain rfl : py + z = u := by omega
                obtain rfl : py = v := by omega
                have hc2 : py < py + z + z := by omega
                clear hu hvv
                go_wp2
                rw [← HB.out, ← HW0.out]
                go_still_tail 18, (by kernel_rfl)
                go_wp2
                rw [← HW1.out]
                go_still_tail 18, (by kernel_rfl)
                go_wp2
                go_roundw
                case rel => exact ⟨j + 1, by omega, by go_num, by rw [Hnx.out]; exact hrowC, hbC⟩
                case measure => simp [intOf]; omega
              · obtain rfl : py + z = u := by omega
                obtain rfl : py = v := by omega
                have hc2 : py < py + z + z := by omega
                clear hu hvv
                go_wp2
                rw [← HB.out, ← HW0.out]
                go_still_tail 18, (by kernel_rfl)
                go_wp2
                rw [← HW1.out]
                go_still_tail 18, (by kernel_rfl)
                go_wp2
                go_roundw
                case rel => exact ⟨j + 1, by omega, by go_num, by rw [Hnx.out]; exact hrowC, hbC⟩
                case measure => simp [intOf]; omega
            · obtain rfl : j = m := by omega
              have Hr := hideIt (show relaxTo rs (farRound rs (farStart k a) t) j = farRound rs (farStart k a) (t + 1) by rw [farRound, Hl.out])
              rw [Hr.out] at hrow3
              go_wp2
              go_roundw
              case rel => exact ⟨t + 1, by omega, by go_num, hrow3, hbv⟩
              case measure => simp [intOf]; omega
        · obtain rfl : t = k := by omega
          go_wp2
          go_ret
          exact ⟨b, c, rfl, hrow, hbw⟩
end Go.Proofs.Ytdnjeahbnidefaa

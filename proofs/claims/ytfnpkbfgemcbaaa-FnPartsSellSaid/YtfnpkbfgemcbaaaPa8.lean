/- Walks: PartsOwner of the program. -/
import Derived.Test.YtfnpkbfgemcbaaaPa7
namespace Go.Proofs.Ytfnpkbfgemcbaaa
open Go.RowKit Go.Shelf
attribute [local go_sem] Oper.semAt_some

/-- what PartsOwner returns -/
def partsOwner (ps : List (Int × Int)) (mile : Int) : Int × Bool := if partsValid ps = true ∧ 0 ≤ mile ∧ mile < (owners ps).length then ((owners ps).getD mile.toNat 0, true) else (0, false)

set_option maxRecDepth 100000 in
set_option maxHeartbeats 2000000 in
theorem implPartsOwner_any (A : Option Addr) (ps : List (Int × Int)) (n cap : Nat) (mile : Int) (w : World) (hl : ps.length = n) (hn : n ≤ 1048576) (hr : Rd w A (fl2 ps)) :
    Calls Try.prog 22 #[.slice A n cap, .int .i64 mile] w (Ret w (.tuple #[.int .i64 (partsOwner ps mile).1, .bool (partsOwner ps mile).2])) := by
  have hB0 : Below w.heap.size w (((w.alloc (.cells #[.int .i64 mile] 3)).alloc (.cells #[.int .i64 0] 3)).alloc (.cells #[.bool false] 4)) :=
    (((Below.refl _ w).alloc (Nat.le_refl _) _).alloc (by simp) _).alloc (by simp; omega) _
  have x3 : Boxed (((w.alloc (.cells #[.int .i64 mile] 3)).alloc (.cells #[.int .i64 0] 3)).alloc (.cells #[.bool false] 4)) w.heap.size 3 (.int .i64 mile) := ((Boxed.new w 3 (.int .i64 mile)).alloc _).alloc _
  have x4 : Boxed (((w.alloc (.cells #[.int .i64 mile] 3)).alloc (.cells #[.int .i64 0] 3)).alloc (.cells #[.bool false] 4)) (w.heap.size + 1) 3 (.int .i64 0) := by
    have := (Boxed.new (w.alloc (.cells #[.int .i64 mile] 3)) 3 (.int .i64 0)).alloc (.cells #[.bool false] 4)
    simpa using this
  have x5 : Boxed (((w.alloc (.cells #[.int .i64 mile] 3)).alloc (.cells #[.int .i64 0] 3)).alloc (.cells #[.bool false] 4)) (w.heap.size + 1 + 1) 4 (.bool false) := by
    have := Boxed.new ((w.alloc (.cells #[.int .i64 mile] 3)).alloc (.cells #[.int .i64 0] 3)) 4 (.bool false)
    simpa using this
  have hz : (((w.alloc (.cells #[.int .i64 mile] 3)).alloc (.cells #[.int .i64 0] 3)).alloc (.cells #[.bool false] 4)).heap.size = w.heap.size + 1 + 1 + 1 := by simp
  cases hv : partsValid ps
  · have Hv := hideIt hv
    clear hv
    have hp : partsOwner ps mile = (0, false) := by rw [partsOwner, Hv.out]; simp
    rw [hp]
    have Hz := hideIt hz
    clear hz
    go_enter Try.func22, Try.ntmps22
    go_wp2_with fail
    refine (implPartsValid_any _ _ _ _ _ _ hl hn (hr.below hB0 (Nat.le_refl _)) Hv.out).mono ?_
    rintro e w1 ⟨rfl, hb1⟩
    have y4 := boxed_below x4 hb1 (by rw [Hz.out]; omega)
    have y5 := boxed_below x5 hb1 (by rw [Hz.out]; omega)
    have c4 := y4.cell
    have g4 := y4.frozen
    have c5 := y5.cell
    have g5 := y5.frozen
    clear x3 x4 x5
    go_wp2
    have z4 := boxed_far (boxed_set y4 (.int .i64 0)) (p := ⟨w.heap.size + 1 + 1, 0, none⟩) (by simp) (.bool false)
    have z5 := boxed_set (boxed_far y5 (p := ⟨w.heap.size + 1, 0, none⟩) (by simp) (.int .i64 0)) (.bool false)
    have d4 := z4.cell
    have d5 := z5.cell
    refine bodyPost_ret (v := .tuple #[.int .i64 0, .bool false]) (by simp [results, Try.results22, go_sem, d4, d5]) rfl ⟨rfl, ?_⟩
    exact ((hB0.trans (hb1.mono (by rw [Hz.out]; omega))).setCell (p := ⟨w.heap.size + 1, 0, none⟩) (by simp) _).setCell (p := ⟨w.heap.size + 1 + 1, 0, none⟩) (by simp; omega) _
  · have Hv := hideIt hv
    have Hz := hideIt hz
    clear hz
    have hn12 := partsValid_len hv
    rw [hl] at hn12
    obtain ⟨b, off, rfl, hb, hc⟩ := hr.at2 (k := 0) (by omega)
    clear hv
    refine (callsIn_wide (n := 6)).1 ?_
    refine callsIn_of_wp_marks Try.func22 rfl trivial ?_ rfl
    simp only [Try.ntmps22, List.size_toArray, List.length_cons, List.length_nil, Nat.reduceAdd, Nat.reduceSub, Array.replicate_succ, Array.replicate_zero, List.push_toArray, List.append_toArray, List.nil_append, List.cons_append]
    gi_wp2_with fail
    refine ⟨trivial, (callsIn_wide.2 (implPartsValid_any _ _ _ _ _ _ hl hn (hr.below hB0 (Nat.le_refl _)) Hv.out)).mono ?_⟩
    rintro e w1 ⟨rfl, hb1⟩
    have y3 := boxed_below x3 hb1 (by rw [Hz.out]; omega)
    have y4 := boxed_below x4 hb1 (by rw [Hz.out]; omega)
    have y5 := boxed_below x5 hb1 (by rw [Hz.out]; omega)
    have hB1 := hB0.trans (hb1.mono (by rw [Hz.out]; omega))
    clear x3 x4 x5 hb1 hB0
    gi_wp2_with fail
    refine ⟨trivial, (callsIn_wide.2 (milesOf_any _ _ _ _)).mono ?_⟩
    rintro e w2 ⟨rfl, rfl⟩
    gi_wp2_with fail
    have hz2 : (w1.alloc (.cells #[.slice (some ⟨b, off, none⟩) n cap] 24)).heap.size = w1.heap.size + 1 := by simp
    have hbox := Boxed.new w1 24 (.slice (some ⟨b, off, none⟩) n cap)
    have q3 := y3.alloc (.cells #[.slice (some ⟨b, off, none⟩) n cap] 24)
    have q4 := y4.alloc (.cells #[.slice (some ⟨b, off, none⟩) n cap] 24)
    have q5 := y5.alloc (.cells #[.slice (some ⟨b, off, none⟩) n cap] 24)
    have hB2 : Below w.heap.size w (w1.alloc (.cells #[.slice (some ⟨b, off, none⟩) n cap] 24)) := hB1.alloc hB1.size _
    have h5 := y5.lt
    obtain ⟨w2, hw2⟩ : ∃ w2, w1.alloc (.cells #[.slice (some ⟨b, off, none⟩) n cap] 24) = w2 := ⟨_, rfl⟩
    rw [hw2] at hz2 hbox q3 q4 q5 hB2 ⊢
    subst hl
    have hOw : OwOk (fun _ j => j = w.heap.size + 1 ∨ j = w.heap.size + 1 + 1) w2 := ⟨fun _ _ _ _ h => h, fun W hW j hj => by have := hW.size; omega, fun _ _ _ h => h⟩
    refine wpIn_rangeFunc_ownG rfl (by omega) (gf := 61) (lb := #[.pointer (some ⟨w1.heap.size, 0, none⟩)]) rfl trivial (enters_of Try.func61 (by kernel_rfl) rfl)
      (miles_stops 5 (by omega) w1.heap.size b off cap ps Hv.out w2 _ hOw (by omega) hbox.cell (by have := hB2.size; omega)
        (fun i hi => ⟨(hB2.cell (p := ⟨b, off + i * 2, none⟩) hb).trans (hc i hi).1, (hB2.cell (p := ⟨b, off + i * 2 + 1, none⟩) hb).trans (hc i hi).2⟩) (by omega))
      KpO.trans (fun W l o o' hB hl hco _ => KpO.put (B := w2.heap.size) (fun _ _ _ _ _ h => h) W l o o' hB hl hco) (Below.refl _ _) (fun _ => rfl)
      (fun pre W => (∀ x ∈ pre, (x.1 : Int) ≠ mile) ∧ Boxed W w.heap.size 3 (.int .i64 mile) ∧ Boxed W (w.heap.size + 1) 3 (.int .i64 0) ∧ Boxed W (w.heap.size + 1 + 1) 4 (.bool false) ∧ Below w.heap.size w W)
      (fun c pre W => c = .ret ∧ ∃ (ini : List (Nat × Int)) (last : Nat × Int), pre = ini ++ [last] ∧ (last.1 : Int) = mile ∧ Boxed W (w.heap.size + 1) 3 (.int .i64 last.2) ∧ Boxed W (w.heap.size + 1 + 1) 4 (.bool true) ∧ Below w.heap.size w W)
      (fun s W W' row hs hg hr => ⟨hs.1, boxed_ownFrom w2.heap.size _ _ (fun _ => _) s W W' row hs.2.1 hg hr, boxed_ownFrom w2.heap.size _ _ (fun _ => _) s W W' row hs.2.2.1 hg hr, boxed_ownFrom w2.heap.size _ _ (fun _ => _) s W W' row hs.2.2.2.1 hg hr, ownFrom_below (Nat.le_refl _) hB2.size s W W' row hs.2.2.2.2 hg hr⟩)
      (fun c s W W' row hs hg hr => by
        obtain ⟨e1, ini, last, e2, e3, e4, e5, e6⟩ := hs
        exact ⟨e1, ini, last, e2, e3, boxed_ownFrom w2.heap.size _ _ (fun _ => _) s W W' row e4 hg hr, boxed_ownFrom w2.heap.size _ _ (fun _ => _) s W W' row e5 hg hr, ownFrom_below (Nat.le_refl _) hB2.size s W W' row e6 hg hr⟩)
      ⟨by simp, q3, q4, q5, hB2⟩
      (fun x => { tmps := #[.slice (some ⟨b, off, none⟩) ps.length cap, .int .i64 mile, undef, .pointer (some ⟨w.heap.size, 0, none⟩), .pointer (some ⟨w.heap.size + 1, 0, none⟩), .pointer (some ⟨w.heap.size + 1 + 1, 0, none⟩), .int .i64 x.1, .int .i64 x.2,
        .slice (some ⟨b, off, none⟩) ps.length cap, .bool true, .bool false, .slice (some ⟨b, off, none⟩) ps.length cap, .func (.func 61) #[] #[.pointer (some ⟨w1.heap.size, 0, none⟩)], .int .i64 x.1, .int .i64 x.2, undef, undef, undef, undef], defers := [] }) ?assign ?body ?done ?stop
    case assign =>
      intro l x W K hK
      dsimp only [encM]
      gi_wp2
      exact hK
    case body =>
      rintro l pre x W ⟨hp, k3, k4, k5, hB⟩ _
      have c3 := k3.cell
      have c4 := k4.cell
      have c5 := k5.cell
      have g4 := k4.frozen
      have g5 := k5.frozen
      by_cases he : (x.1 : Int) = mile
      · have he' : ((x.1 : Int) == mile) = true := by simp [he]
        have He := hideIt he
        clear he
        gi_wp2
        refine ⟨((KeepsOthers.setCell W ⟨w.heap.size + 1, 0, none⟩ (.int .i64 x.2)).trans (KeepsOthers.setCell _ ⟨w.heap.size + 1 + 1, 0, none⟩ (.bool true))).from _, rfl, pre, x, rfl, He.out,
          boxed_far (boxed_set k4 (.int .i64 x.2)) (p := ⟨w.heap.size + 1 + 1, 0, none⟩) (by simp) _, boxed_set (boxed_far k5 (p := ⟨w.heap.size + 1, 0, none⟩) (by simp) _) _,
          (hB.setCell (p := ⟨w.heap.size + 1, 0, none⟩) (by simp) _).setCell (p := ⟨w.heap.size + 1 + 1, 0, none⟩) (by simp; omega) _⟩
      · have he' : ((x.1 : Int) == mile) = false := by simp [he]
        have He := hideIt he
        clear he
        gi_wp2
        exact ⟨KeepsFrom.refl _ _, KpO.refl _ _, fun y hy => (List.mem_append.1 hy).elim (hp y) (fun e => by simp at e; subst e; exact He.out), k3, k4, k5, hB⟩
    case done =>
      rintro D ys W hD rfl ⟨hp, k3, k4, k5, hB⟩ hK
      have c4 := k4.cell
      have c5 := k5.cell
      have g4 := k4.frozen
      have g5 := k5.frozen
      gi_wp2
      have hK' := ((KeepsOthers.setCell W ⟨w.heap.size + 1, 0, none⟩ (.int .i64 0)).trans (KeepsOthers.setCell _ ⟨w.heap.size + 1 + 1, 0, none⟩ (.bool false))).same D _ hK rfl
      refine ⟨by simp, .inl ⟨_, _, rfl, run_takeDeferred hK', ?_⟩⟩
      have z4 := boxed_far (boxed_set k4 (.int .i64 0)) (p := ⟨w.heap.size + 1 + 1, 0, none⟩) (by simp) (.bool false)
      have z5 := boxed_set (boxed_far k5 (p := ⟨w.heap.size + 1, 0, none⟩) (by simp) (.int .i64 0)) (.bool false)
      have d4 := cell_kept z4.cell (grownBy_putObj' _ D (.deferred none)) (fun r e => by cases e; exact ⟨_, hK', rfl⟩)
      have d5 := cell_kept z5.cell (grownBy_putObj' _ D (.deferred none)) (fun r e => by cases e; exact ⟨_, hK', rfl⟩)
      have hp0 : partsOwner ps mile = (0, false) := by
        unfold partsOwner
        rw [if_neg]
        rintro ⟨_, h1, h2⟩
        refine hp (mileAt ps mile.toNat) (by simp only [upto, List.mem_map, List.mem_range]; exact ⟨mile.toNat, by omega, rfl⟩) ?_
        simp only [mileAt]
        omega
      refine ⟨.tuple #[.int .i64 0, .bool false], ?_, by rw [hp0], ((hB.setCell (p := ⟨w.heap.size + 1, 0, none⟩) (by simp) _).setCell (p := ⟨w.heap.size + 1 + 1, 0, none⟩) (by simp; omega) _).trans (belowK_b (w := w2) hB2.size _ D _ _ hD hK' rfl rfl)⟩
      simp [results, Try.f22, go_sem, d4, d5]
    case stop =>
      rintro D c pre W hD ⟨k, hk, rfl⟩ ⟨rfl, ini, last, e2, e3, k4, k5, hB⟩ hK
      gi_wp2
      refine ⟨by simp, .inl ⟨_, _, rfl, run_takeDeferred hK, ?_⟩⟩
      have d4 := cell_kept k4.cell (grownBy_putObj' _ D (.deferred none)) (fun r e => by cases e; exact ⟨_, hK, rfl⟩)
      have d5 := cell_kept k5.cell (grownBy_putObj' _ D (.deferred none)) (fun r e => by cases e; exact ⟨_, hK, rfl⟩)
      obtain ⟨k', rfl⟩ : ∃ k', k = k' + 1 := by
        cases k with
        | zero => simp [upto] at e2
        | succ k' => exact ⟨k', rfl⟩
      rw [upto_succ] at e2
      obtain ⟨rfl, e5⟩ := List.append_inj' e2 rfl
      obtain rfl : mileAt ps k' = last := by simpa using e5
      have hp0 : partsOwner ps mile = ((owners ps).getD k' 0, true) := by
        unfold partsOwner
        simp only [mileAt] at e3
        rw [if_pos ⟨Hv.out, by omega, by omega⟩, show mile.toNat = k' by omega]
      refine ⟨.tuple #[.int .i64 ((owners ps).getD k' 0), .bool true], ?_, by rw [hp0], hB.trans (belowK_b (w := w2) hB2.size W D _ _ hD hK rfl rfl)⟩
      simp only [mileAt] at d4
      simp [results, Try.f22, go_sem, d4, d5]
end Go.Proofs.Ytfnpkbfgemcbaaa

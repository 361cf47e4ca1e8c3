/- Walks: the miles that each proprietor works; PartsMiles of the program and of the reference. -/
import Derived.Test.YtfnpkbfgemcbaaaPa11
namespace Go.Proofs.Ytfnpkbfgemcbaaa
open Go.RowKit Go.Shelf
attribute [local go_sem] Oper.semAt_some

/-- one mile is counted, if it lies in the stretch -/
def workStep (a b : Int) (out : List Int) (x : Nat × Int) : List Int := if a ≤ x.1 ∧ (x.1 : Int) < b then out.set x.2.toNat (out.getD x.2.toNat 0 + 1) else out
def workSum (a b : Int) (xs : List (Nat × Int)) : List Int := xs.foldl (workStep a b) (List.replicate 6 0)
theorem workSum_snoc (a b : Int) (xs : List (Nat × Int)) (x : Nat × Int) : workSum a b (xs ++ [x]) = workStep a b (workSum a b xs) x := by simp [workSum]
theorem workSum_len (a b : Int) (xs : List (Nat × Int)) : (workSum a b xs).length = 6 := by
  have : ∀ (xs : List (Nat × Int)) (out : List Int), (xs.foldl (workStep a b) out).length = out.length := by
    intro xs
    induction xs with
    | nil => intro out; rfl
    | cons x xs ih => intro out; rw [List.foldl_cons, ih]; unfold workStep; split <;> simp
  rw [workSum, this]
  simp
theorem workSum_in (a b : Int) (xs : List (Nat × Int)) : InR 0 xs.length (workSum a b xs) := by
  have : ∀ (xs : List (Nat × Int)) (out : List Int) (M : Int), 0 ≤ M → InR 0 M out → InR 0 (M + xs.length) (xs.foldl (workStep a b) out) := by
    intro xs
    induction xs with
    | nil => intro out M _ h; simpa using h
    | cons x xs ih =>
      intro out M hM h
      rw [List.foldl_cons]
      have h2 := ih (workStep a b out x) (M + 1) (by omega) (by
        unfold workStep
        split
        · by_cases hl : x.2.toNat < out.length
          · have hk := h _ hl
            unfold a1 at hk
            exact InR.set h (by omega) (by omega) (by omega)
          · rw [List.set_eq_of_length_le (by omega)]
            exact fun k hk => ⟨(h k hk).1, by have := (h k hk).2; omega⟩
        · exact fun k hk => ⟨(h k hk).1, by have := (h k hk).2; omega⟩)
      intro k hk
      have h3 := h2 k hk
      simp only [List.length_cons]
      omega
  have h := this xs (List.replicate 6 0) 0 (by omega) (InR.zero 6)
  rw [Int.zero_add] at h
  exact h

/-- the miles of each proprietor from one mile to another one -/
def workedOf (ps : List (Int × Int)) (a b : Int) : List Int := workSum a b (upto (mileAt ps) (owners ps).length)

/-- make([]int, n): a new block -/
theorem make_ints (n : Nat) (hn : n ≤ 1048576) (cs : Array Value) (hcs : cs.toList = fl1 (List.replicate n 0)) (W : World) :
    (Instr.makeSlice 34 (.int .i64 n) (.int .i64 n)).run Try.prog W = .ok (.slice (some ⟨W.heap.size, 0, none⟩) n n) (W.alloc (.cells cs 3)) := by
  obtain ⟨i0, hi, hz0, hz1, hz2⟩ := info_parts info_int
  have h := run_make (P := Try.prog) W 34 3 i0 (.int .i64 0) Try.underlying34 hi hz0 .i64 .i64 n n (by omega) (by omega) (by rw [hz2]; omega) (by omega)
  simp only [Int.toNat_natCast] at h
  rw [h]
  congr 3
  apply Array.toList_inj.1
  rw [hcs, ← made1, hz1]
  rfl

theorem kpo_one (g : Nat) (W : World) (i : Nat) (u : Value) : KpO (fun _ j => j = g) W (W.setCell ⟨g, i, none⟩ u) :=
  ⟨by simp, fun _ j c t f hn hc => by rw [Below.heap_setCell _ _ _ _ (fun e => hn e)]; exact hc, fun hW j hj => ⟨.inl hj, by simpa using hW j hj⟩⟩
/-- what the variables of worked hold when pre has come -/
def WkI (w : World) (a b : Int) (pre : List MO) (W : World) : Prop :=
  W.ownsRow w.heap.size 3 1 (.slice (some ⟨w.heap.size + 1 + 1, 0, none⟩) 6 6) 6 (fl1 (workSum a b (pre.map Subtype.val))) ∧ Boxed W w.heap.size 3 (.int .i64 a) ∧ Boxed W (w.heap.size + 1) 3 (.int .i64 b) ∧
    Boxed W (w.heap.size + 1 + 1 + 1) 34 (.slice (some ⟨w.heap.size + 1 + 1, 0, none⟩) 6 6) ∧ Below w.heap.size w W

set_option maxRecDepth 100000 in
set_option maxHeartbeats 4000000 in
theorem worked_any (A : Option Addr) (ps : List (Int × Int)) (n cap : Nat) (a b : Int) (w : World) (hl : ps.length = n) (hr : Rd w A (fl2 ps)) (hv : partsValid ps = true) :
    Calls Try.prog 50 #[.slice A n cap, .int .i64 a, .int .i64 b] w (RetS w 3 1 6 (fl1 (workedOf ps a b))) := by
  obtain ⟨i0, hi, hz0, hz1, hz2⟩ := info_parts info_int
  have hn1 := (partsValid_len hv).1
  have Hv := hideIt hv
  clear hv
  subst hl
  obtain ⟨bb, off, rfl, hb, hc⟩ := hr.at2 hn1
  obtain ⟨cs, hcs⟩ : ∃ cs : Array Value, cs.toList = fl1 (List.replicate 6 0) := ⟨(fl1 (List.replicate 6 0)).toArray, rfl⟩
  have hmk : ∀ W : World, (Instr.makeSlice 34 (.int .i64 6) (.int .i64 6)).run Try.prog W = .ok (.slice (some ⟨W.heap.size, 0, none⟩) 6 6) (W.alloc (.cells cs 3)) := make_ints 6 (by omega) cs hcs
  have Hcs := hideIt hcs
  clear hcs
  refine (callsIn_wide (n := 6)).1 ?_
  refine callsIn_of_wp_marks Try.func50 rfl trivial ?_ rfl
  simp only [Try.ntmps50, List.size_toArray, List.length_cons, List.length_nil, Nat.reduceAdd, Nat.reduceSub, Array.replicate_succ, Array.replicate_zero, List.push_toArray, List.append_toArray, List.nil_append, List.cons_append]
  gi_wp2_with fail
  have q4 : Boxed ((((w.alloc (.cells #[.int .i64 a] 3)).alloc (.cells #[.int .i64 b] 3)).alloc (.cells cs 3)).alloc (.cells #[.slice (some ⟨w.heap.size + 1 + 1, 0, none⟩) 6 6] 34)) w.heap.size 3 (.int .i64 a) :=
    (((Boxed.new w 3 (.int .i64 a)).alloc _).alloc _).alloc _
  have q5 : Boxed ((((w.alloc (.cells #[.int .i64 a] 3)).alloc (.cells #[.int .i64 b] 3)).alloc (.cells cs 3)).alloc (.cells #[.slice (some ⟨w.heap.size + 1 + 1, 0, none⟩) 6 6] 34)) (w.heap.size + 1) 3 (.int .i64 b) := by
    have := ((Boxed.new (w.alloc (.cells #[.int .i64 a] 3)) 3 (.int .i64 b)).alloc (.cells cs 3)).alloc (.cells #[.slice (some ⟨w.heap.size + 1 + 1, 0, none⟩) 6 6] 34)
    simpa using this
  have q7 : Boxed ((((w.alloc (.cells #[.int .i64 a] 3)).alloc (.cells #[.int .i64 b] 3)).alloc (.cells cs 3)).alloc (.cells #[.slice (some ⟨w.heap.size + 1 + 1, 0, none⟩) 6 6] 34)) (w.heap.size + 1 + 1 + 1) 34 (.slice (some ⟨w.heap.size + 1 + 1, 0, none⟩) 6 6) := by
    have := Boxed.new (((w.alloc (.cells #[.int .i64 a] 3)).alloc (.cells #[.int .i64 b] 3)).alloc (.cells cs 3)) 34 (.slice (some ⟨w.heap.size + 1 + 1, 0, none⟩) 6 6)
    simpa using this
  have qrow : ((((w.alloc (.cells #[.int .i64 a] 3)).alloc (.cells #[.int .i64 b] 3)).alloc (.cells cs 3)).alloc (.cells #[.slice (some ⟨w.heap.size + 1 + 1, 0, none⟩) 6 6] 34)).ownsRow w.heap.size 3 1 (.slice (some ⟨w.heap.size + 1 + 1, 0, none⟩) 6 6) 6 (fl1 (List.replicate 6 0)) := by
    have h := World.ownsRow_lit (base := w.heap.size) (e := 3) (size := 1) ((w.alloc (.cells #[.int .i64 a] 3)).alloc (.cells #[.int .i64 b] 3)) cs 6 (by simp; omega) (by unfold maxLen; omega) (by rw [← Array.length_toList, Hcs.out, fl1_len]; simp)
    rw [Hcs.out] at h
    have := h.alloc (.cells #[.slice (some ⟨w.heap.size + 1 + 1, 0, none⟩) 6 6] 34)
    simpa using this
  have hB0 : Below w.heap.size w ((((w.alloc (.cells #[.int .i64 a] 3)).alloc (.cells #[.int .i64 b] 3)).alloc (.cells cs 3)).alloc (.cells #[.slice (some ⟨w.heap.size + 1 + 1, 0, none⟩) 6 6] 34)) :=
    ((((Below.refl _ w).alloc (Nat.le_refl _) _).alloc (by simp) _).alloc (by simp; omega) _).alloc (by simp; omega) _
  have hz0' : ((((w.alloc (.cells #[.int .i64 a] 3)).alloc (.cells #[.int .i64 b] 3)).alloc (.cells cs 3)).alloc (.cells #[.slice (some ⟨w.heap.size + 1 + 1, 0, none⟩) 6 6] 34)).heap.size = w.heap.size + 4 := by simp
  obtain ⟨w1, hw1⟩ : ∃ w1, (((w.alloc (.cells #[.int .i64 a] 3)).alloc (.cells #[.int .i64 b] 3)).alloc (.cells cs 3)).alloc (.cells #[.slice (some ⟨w.heap.size + 1 + 1, 0, none⟩) 6 6] 34) = w1 := ⟨_, rfl⟩
  rw [hw1] at q4 q5 q7 qrow hB0 hz0' ⊢
  have hz1' : w.heap.size + 4 ≤ w1.heap.size := by omega
  clear hw1 hmk hz0'
  refine ⟨trivial, (callsIn_wide.2 (milesOf_any _ _ _ _)).mono ?_⟩
  rintro e w2 ⟨rfl, rfl⟩
  gi_wp2_with fail
  have hz2 : (w1.alloc (.cells #[.slice (some ⟨bb, off, none⟩) ps.length cap] 24)).heap.size = w1.heap.size + 1 := by simp
  have hbox := Boxed.new w1 24 (.slice (some ⟨bb, off, none⟩) ps.length cap)
  have r4 := q4.alloc (.cells #[.slice (some ⟨bb, off, none⟩) ps.length cap] 24)
  have r5 := q5.alloc (.cells #[.slice (some ⟨bb, off, none⟩) ps.length cap] 24)
  have r7 := q7.alloc (.cells #[.slice (some ⟨bb, off, none⟩) ps.length cap] 24)
  have rrow := qrow.alloc (.cells #[.slice (some ⟨bb, off, none⟩) ps.length cap] 24)
  have hB2 : Below w.heap.size w (w1.alloc (.cells #[.slice (some ⟨bb, off, none⟩) ps.length cap] 24)) := hB0.alloc hB0.size _
  obtain ⟨w2, hw2⟩ : ∃ w2, w1.alloc (.cells #[.slice (some ⟨bb, off, none⟩) ps.length cap] 24) = w2 := ⟨_, rfl⟩
  rw [hw2] at hz2 hbox r4 r5 r7 rrow hB2 ⊢
  have hz2' : w1.heap.size < w2.heap.size := by omega
  clear hw2 hz2
  have hOw : OwOk (fun _ j => j = w.heap.size + 1 + 1) w2 := ⟨fun _ _ _ _ h => h, fun W hW j hj => by have := hW.size; omega, fun _ _ _ h => h⟩
  refine wpIn_rangeFunc_ownG rfl (by omega) (gf := 61) (lb := #[.pointer (some ⟨w1.heap.size, 0, none⟩)]) rfl trivial (enters_of Try.func61 (by kernel_rfl) rfl)
    (miles_stopsO 5 (by omega) w1.heap.size bb off cap ps Hv.out w2 _ hOw (by omega) hbox.cell (by have := hB2.size; omega)
      (fun i hi => ⟨(hB2.cell (p := ⟨bb, off + i * 2, none⟩) hb).trans (hc i hi).1, (hB2.cell (p := ⟨bb, off + i * 2 + 1, none⟩) hb).trans (hc i hi).2⟩) (by omega))
    KpO.trans (fun W l o o' hB hl hco _ => KpO.put (B := w2.heap.size) (fun _ _ _ _ _ h => h) W l o o' hB hl hco) (Below.refl _ _) (fun _ => rfl)
    (WkI w a b)
    (fun _ _ _ => False)
    (fun s W W' row hs hg hr => ⟨own_ownFrom hs.1 hg hr, boxed_ownFrom w2.heap.size _ _ (fun _ => _) s W W' row hs.2.1 hg hr, boxed_ownFrom w2.heap.size _ _ (fun _ => _) s W W' row hs.2.2.1 hg hr, boxed_ownFrom w2.heap.size _ _ (fun _ => _) s W W' row hs.2.2.2.1 hg hr, ownFrom_below (Nat.le_refl _) hB2.size s W W' row hs.2.2.2.2 hg hr⟩)
    (fun _ _ _ _ _ hs _ _ => hs)
    ⟨rrow, r4, r5, r7, hB2⟩
    (fun x => { tmps := #[.slice (some ⟨bb, off, none⟩) ps.length cap, .int .i64 a, .int .i64 b, undef, .pointer (some ⟨w.heap.size, 0, none⟩), .pointer (some ⟨w.heap.size + 1, 0, none⟩), .slice none 0 0, .pointer (some ⟨w.heap.size + 1 + 1 + 1, 0, none⟩),
      .int .i64 x.1.1, .int .i64 x.1.2, .slice (some ⟨w.heap.size + 1 + 1, 0, none⟩) 6 6, .slice (some ⟨bb, off, none⟩) ps.length cap, .func (.func 61) #[] #[.pointer (some ⟨w1.heap.size, 0, none⟩)], .int .i64 x.1.1, .int .i64 x.1.2,
      undef, undef, undef, undef, undef, undef, undef, undef, undef, undef, undef, undef, undef, undef, undef], defers := [] }) ?assign ?body ?done ?stop
  case assign =>
    intro l x W K hK
    dsimp only [encM]
    gi_wp2
    exact hK
  case body =>
    rintro l pre x W ⟨hrow, k4, k5, k7, hB⟩ hlen
    have c4 := k4.cell
    have c5 := k5.cell
    have c7 := k7.cell
    have hx0 := x.2.1
    have hx5 := x.2.2
    have hole := owners_le Hv.out
    have Hsn := hideIt (show workSum a b ((pre ++ [x]).map Subtype.val) = workStep a b (workSum a b (pre.map Subtype.val)) x.1 by rw [List.map_append]; exact workSum_snoc _ _ _ _)
    have hlw : x.1.2.toNat < (workSum a b (pre.map Subtype.val)).length := by rw [workSum_len]; omega
    have hin := workSum_in a b (pre.map Subtype.val) _ hlw
    rw [List.length_map] at hin
    have hco := row1_a hrow hlw
    have hfr := fun j => hrow.frozenAt j
    have hsto := row1_store hrow hlw (a1 (workSum a b (pre.map Subtype.val)) x.1.2.toNat + 1)
    by_cases h1 : a ≤ x.1.1
    · by_cases h2 : (x.1.1 : Int) < b
      · have Hyes := hideIt (show workStep a b (workSum a b (pre.map Subtype.val)) x.1 = (workSum a b (pre.map Subtype.val)).set x.1.2.toNat (a1 (workSum a b (pre.map Subtype.val)) x.1.2.toNat + 1) by unfold workStep; rw [if_pos ⟨h1, h2⟩]; rfl)
        gi_wp2
        refine ⟨(KeepsOthers.setCell W ⟨w.heap.size + 1 + 1, x.1.2.toNat, none⟩ _).from _, kpo_one _ _ _ _, by rw [Hsn.out, Hyes.out]; exact hsto, boxed_far k4 (p := ⟨w.heap.size + 1 + 1, x.1.2.toNat, none⟩) (by simp; omega) _, boxed_far k5 (p := ⟨w.heap.size + 1 + 1, x.1.2.toNat, none⟩) (by simp) _, boxed_far k7 (p := ⟨w.heap.size + 1 + 1, x.1.2.toNat, none⟩) (by simp) _, hB.setCell (p := ⟨w.heap.size + 1 + 1, x.1.2.toNat, none⟩) (by simp; omega) _⟩
      · have Hno := hideIt (show workStep a b (workSum a b (pre.map Subtype.val)) x.1 = workSum a b (pre.map Subtype.val) by unfold workStep; rw [if_neg (fun h => h2 h.2)])
        have h2' : b ≤ (x.1.1 : Int) := by omega
        gi_wp2
        exact ⟨KeepsFrom.refl _ _, KpO.refl _ _, by rw [Hsn.out, Hno.out]; exact hrow, k4, k5, k7, hB⟩
    · have Hno := hideIt (show workStep a b (workSum a b (pre.map Subtype.val)) x.1 = workSum a b (pre.map Subtype.val) by unfold workStep; rw [if_neg (fun h => h1 h.1)])
      have h1' : (x.1.1 : Int) < a := by omega
      gi_wp2
      exact ⟨KeepsFrom.refl _ _, KpO.refl _ _, by rw [Hsn.out, Hno.out]; exact hrow, k4, k5, k7, hB⟩
  case done =>
    rintro D ys W hD rfl ⟨hrow, k4, k5, k7, hB⟩ hK
    have c7 := k7.cell
    have Hval := hideIt (upto_val Hv.out (owners ps).length)
    gi_wp2
    refine ⟨by simp, .inl ⟨_, _, rfl, run_takeDeferred hK, ?_⟩⟩
    rw [Hval.out] at hrow
    exact ⟨_, results_tmp rfl _ _ _, _, _, rfl, own_ownFrom (C := 0) hrow (grownBy_putObj' _ D _) (fun r e => by cases e; exact ⟨Nat.zero_le _, _, hK, rfl⟩), hB.trans (belowK_b (w := w2) hB2.size W D _ _ hD hK rfl rfl)⟩
  case stop =>
    rintro D c pre W _ _ h _
    exact h.elim
end Go.Proofs.Ytfnpkbfgemcbaaa

/- Proves FnExactRoadsMany: for every input the program's RoadsMany returns what the reference's returns, leaves its arguments as they were and shares no memory; the law returns true. No condition. -/
import Derived.Test.YtpiknklaikcilaaRows
import Derived.Test.YtpiknklaikcilaaOpen
import Derived.Test.YtpiknklaikcilaaHpRoad
import Derived.Test.YtpiknklaikcilaaRoMc
namespace Go.Proofs.Ytpiknklaikcilaa.exRoadsMany
open Go.ChangeShapes Go.WideShapes Go.ChangeAt Go.RowKit

theorem own : ownKnob Try.prog.godebug = none := by kernel_rfl
theorem laidOut : laidOutB Try.prog = true := by kernel_rfl

set_option maxHeartbeats 4000000 in
theorem walk (v0 : Int) (A1 : Option Addr) (p1 : List (Int × Int × Int)) (n1 c1 : Nat) (v2 : Int) (v3 : Int) (w : World) (wf0 : -9223372036854775808 ≤ v0 ∧ v0 ≤ 9223372036854775807) (hl1 : p1.length = n1) (hm1 : n1 ≤ maxLen) (hr1 : Rd w A1 (fl3 p1)) (wf2 : -9223372036854775808 ≤ v2 ∧ v2 ≤ 9223372036854775807) (wf3 : -9223372036854775808 ≤ v3 ∧ v3 ≤ 9223372036854775807) :
    Calls Try.prog 7 #[.int .i64 v0, .slice A1 n1 c1, .int .i64 v2, .int .i64 v3] w (Ret w (.bool true)) := by
  unfold maxLen at hm1
  by_cases hn1 : n1 ≤ 1048576
  rotate_left
  · go_enter Try.func7, Try.ntmps7
    go_wp2_with (go_at_call 15; refine (szRoadS_no _ _ _ _ _ (by omega) (by omega) (by omega)).mono ?_; rintro e w' ⟨rfl, rfl⟩)
    go_ret
    exact ⟨rfl, Below.refl _ _⟩
  have hn1' : n1 ≤ 1048576 := by omega
  have Hl1 := hideIt hl1
  clear hl1
  go_enter Try.func7, Try.ntmps7
  have bel0 : Below w.heap.size w w := Below.refl _ _
  go_wp2_with fail
  refine (szRoadS_yes _ _ _ _ _ (by omega) (by omega)).mono ?_
  rintro e w' ⟨rfl, rfl⟩
  go_wp2_with fail
  refine (toRoadS_any _ _ _ _ _ Hl1.out hn1' (hr1.below bel0 (Nat.le_refl _))).mono ?_
  rintro e w1 ⟨gs1, cs1, rfl, os11, hb1⟩
  have bel1 := bel0.trans (hb1.mono bel0.size)
  go_wp2_with fail
  refine (specRoadsMany_w _ _ _ _ _ _ _ _ wf0 Hl1.out hn1' (Rd.of_own os11) wf2 wf3).mono ?_
  rintro e w2 ⟨rfl, hb2⟩
  have bel2 := bel1.trans (hb2.mono bel1.size)
  have os12 := own_below os11 hb2 (Nat.le_refl _)
  go_wp2_with fail
  refine (toRoadS_any _ _ _ _ _ Hl1.out hn1' (hr1.below bel2 (Nat.le_refl _))).mono ?_
  rintro e w3 ⟨gx1, cx1, rfl, ox13, hb3⟩
  have bel3 := bel2.trans (hb3.mono bel2.size)
  have os13 := own_below os12 hb3 (Nat.le_refl _)
  go_wp2_with fail
  refine (implRoadsMany_w _ _ _ _ _ _ _ _ wf0 Hl1.out hn1' (Rd.of_own ox13) wf2 wf3).mono ?_
  rintro e w4 ⟨rfl, hb4⟩
  have bel4 := bel3.trans (hb4.mono bel3.size)
  have os14 := own_below os13 hb4 (Nat.le_refl _)
  have ox14 := own_below ox13 hb4 (Nat.le_refl _)
  go_wp2_with fail
  refine (toRoadS_any _ _ _ _ _ Hl1.out hn1' (hr1.below bel4 (Nat.le_refl _))).mono ?_
  rintro e w5 ⟨gy1, cy1, rfl, oy15, hb5⟩
  have bel5 := bel4.trans (hb5.mono bel4.size)
  have os15 := own_below os14 hb5 (Nat.le_refl _)
  have ox15 := own_below ox14 hb5 (Nat.le_refl _)
  go_wp2_with fail
  refine (eqRoadS_any _ _ _ _ _ _ _ _ _ Hl1.out Hl1.out hn1' hn1' (Rd.of_own ox15) (Rd.of_own oy15)).mono ?_
  rintro e w6 ⟨rfl, hb6⟩
  have bel6 := bel5.trans (hb6.mono bel5.size)
  have os16 := own_below os15 hb6 (Nat.le_refl _)
  have ox16 := own_below ox15 hb6 (Nat.le_refl _)
  have oy16 := own_below oy15 hb6 (Nat.le_refl _)
  go_wp2
  go_ret
  exact ⟨rfl, bel6⟩

set_option maxRecDepth 100000 in
theorem lifted (os : Os) (started : os.Started) (H : Type) (enc : TypeId × Value → H) :
    ReturnsInHanded {} Try.checked os 7 .any (Rows.fnExactRoadsManySpec.pre6 enc Try.prog Try.f7 Rows.fnExactRoadsManyRow.domain false) (Rows.fnExactRoadsManySpec.post enc Try.prog Try.f7 false true false false) := by
  refine returnsInHanded_of_change (C := Try.checked) own started (by kernel_rfl) Try.func7
    (ChangeSpec.witness6 (enc := enc) (C := Try.checked) false ⟨#[], #[.int .i64 0, .slice none 0 0, .int .i64 0, .int .i64 0], []⟩ 8 (by kernel_rfl) (by kernel_rfl) (by kernel_rfl) (by kernel_rfl)) ?_
  intro W base args ds gs before hval0 hW hcnd _
  have hval : ∀ (j : Nat) t v, Try.f7.params[j]? = some t → args[j]? = some v → Value.okWide Try.prog W .any base t v := hval0
  have hW' := hW
  obtain ⟨p, q, hA0, hV, rfl, hfz, hnd⟩ := hW
  have hA : DataW.TrodAll enc Try.prog W 0 (fun _ => true) true Try.f7.params.toList args.toList ds p := hA0
  rw [Try.params7] at hA hval
  obtain ⟨v0, vs0, d0, ds0, p0, q0, hargs, rfl, rfl, h0, r0⟩ := trodAll_cons hA
  obtain ⟨v1, vs1, d1, ds1, p1, q1, rfl, rfl, rfl, h1, r1⟩ := trodAll_cons r0
  obtain ⟨v2, vs2, d2, ds2, p2, q2, rfl, rfl, rfl, h2, r2⟩ := trodAll_cons r1
  obtain ⟨v3, vs3, d3, ds3, p3, q3, rfl, rfl, rfl, h3, r3⟩ := trodAll_cons r2
  obtain ⟨rfl, rfl, rfl⟩ := trodAll_nil r3
  obtain rfl : args = #[v0, v1, v2, v3] := by cases args; simp_all
  obtain ⟨rfl, rfl⟩ := trodVars_none hV
  have lt0 : ∀ x ∈ p0, x.block < W.heap.size := by obtain ⟨m, hm⟩ := h0; exact DataW.trod_lt m _ _ _ hm
  have k0 := h0
  obtain ⟨x0, rfl, rfl, rfl, wx0⟩ := open_int Try.underlying3 (hval 0 3 v0 rfl rfl) h0
  have wy0 : -9223372036854775808 ≤ x0 ∧ x0 ≤ 9223372036854775807 := by simpa [Lit.wf, IntKind.min, IntKind.max, IntKind.signed, IntKind.bits] using wx0
  have lt1 : ∀ x ∈ p1, x.block < W.heap.size := by obtain ⟨m, hm⟩ := h1; exact DataW.trod_lt m _ _ _ hm
  have k1 := h1
  obtain ⟨a1, len1, cap1, rfl⟩ := okWide_slice Try.underlying22 (hval 1 22 v1 rfl rfl)
  obtain ⟨z1, l1, w1, m1⟩ : ∃ xs : List (Int × Int × Int), xs.length = len1 ∧ Rd W a1 (fl3 xs) ∧ len1 ≤ maxLen := by
    obtain ⟨fuel, hf⟩ := h1
    exact open_recs (s := 3) enc3 enc3_len (by omega) Try.underlying22 (by kernel_rfl) (cells3 Try.underlying63 (by kernel_rfl) (by kernel_rfl) Try.underlying3 Try.underlying3 Try.underlying3) (by simpa [Value.cells] using hf)
  have lt2 : ∀ x ∈ p2, x.block < W.heap.size := by obtain ⟨m, hm⟩ := h2; exact DataW.trod_lt m _ _ _ hm
  have k2 := h2
  obtain ⟨x2, rfl, rfl, rfl, wx2⟩ := open_int Try.underlying3 (hval 2 3 v2 rfl rfl) h2
  have wy2 : -9223372036854775808 ≤ x2 ∧ x2 ≤ 9223372036854775807 := by simpa [Lit.wf, IntKind.min, IntKind.max, IntKind.signed, IntKind.bits] using wx2
  have lt3 : ∀ x ∈ p3, x.block < W.heap.size := by obtain ⟨m, hm⟩ := h3; exact DataW.trod_lt m _ _ _ hm
  have k3 := h3
  obtain ⟨x3, rfl, rfl, rfl, wx3⟩ := open_int Try.underlying3 (hval 3 3 v3 rfl rfl) h3
  have wy3 : -9223372036854775808 ≤ x3 ∧ x3 ≤ 9223372036854775807 := by simpa [Lit.wf, IntKind.min, IntKind.max, IntKind.signed, IntKind.bits] using wx3
  clear hA0 hval0
  refine (walk x0 a1 z1 len1 cap1 x2 x3 W wy0 l1 m1 w1 wy2 wy3).mono fun e W' ⟨he, bel⟩ => ?_
  subst he
  exact ⟨_, rfl, _, _, _, [], _, [], hW', trodAll_mk1 (shut_bool Try.underlying4 _), (trodAll_cons_mk (Below.trod laidOut (by kernel_rfl) (of_decide_eq_true (by kernel_rfl)) k0 bel lt0) (trodAll_cons_mk (Below.trod laidOut (by kernel_rfl) (of_decide_eq_true (by kernel_rfl)) k1 bel lt1) (trodAll_cons_mk (Below.trod laidOut (by kernel_rfl) (of_decide_eq_true (by kernel_rfl)) k2 bel lt2) (trodAll_cons_mk (Below.trod laidOut (by kernel_rfl) (of_decide_eq_true (by kernel_rfl)) k3 bel lt3) trodAll_mk0)))), rfl, bel.frame _, fun h => by cases h⟩

theorem proved : Rows.FnExactRoadsManySaid :=
  OpenClaim.holds_of_wide 7 Try.f7 rfl rfl rfl rfl rfl rfl rfl ⟨rfl, rfl, rfl, rfl, rfl⟩ rfl rfl rfl rfl rfl (by kernel_rfl) Try.func7 (by kernel_rfl)
    (of_decide_eq_true (by kernel_rfl)) (by unfold Func.isWrapper; first | (rw [if_pos (by decide +kernel)]; kernel_rfl) | (rw [if_neg (by decide +kernel)]; exact ⟨rfl, rfl⟩))
    (fun os started H enc _ => lifted os started H enc)
end Go.Proofs.Ytpiknklaikcilaa.exRoadsMany

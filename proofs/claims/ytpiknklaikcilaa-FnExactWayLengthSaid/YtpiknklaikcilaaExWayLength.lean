/- Proves FnExactWayLength: for every input the program's WayLength returns what the reference's returns, leaves its arguments as they were and shares no memory; the law returns true. No condition. -/
import Derived.Test.YtpiknklaikcilaaRows
import Derived.Test.YtpiknklaikcilaaOpen
import Derived.Test.YtpiknklaikcilaaHpRoad
import Derived.Test.YtpiknklaikcilaaToInt
import Derived.Test.YtpiknklaikcilaaOpenI
import Derived.Test.YtpiknklaikcilaaStep
import Derived.Test.YtpiknklaikcilaaRo4
namespace Go.Proofs.Ytpiknklaikcilaa.exWayLength
open Go.ChangeShapes Go.WideShapes Go.ChangeAt Go.RowKit

theorem own : ownKnob Try.prog.godebug = none := by kernel_rfl
theorem laidOut : laidOutB Try.prog = true := by kernel_rfl

set_option maxHeartbeats 4000000 in
theorem walk (v0 : Int) (A1 : Option Addr) (p1 : List (Int × Int × Int)) (n1 c1 : Nat) (A2 : Option Addr) (p2 : List Int) (n2 c2 : Nat) (w : World) (wf0 : -9223372036854775808 ≤ v0 ∧ v0 ≤ 9223372036854775807) (hl1 : p1.length = n1) (hm1 : n1 ≤ maxLen) (hr1 : Rd w A1 (fl3 p1)) (hl2 : p2.length = n2) (hm2 : n2 ≤ maxLen) (hr2 : Rd w A2 (fl1 p2)) (ho2 : ∀ k, k < p2.length → IntOk (a1 p2 k)) :
    Calls Try.prog 4 #[.int .i64 v0, .slice A1 n1 c1, .slice A2 n2 c2] w (Ret w (.bool true)) := by
  unfold maxLen at hm1
  unfold maxLen at hm2
  by_cases hn2 : n2 ≤ 1048576
  rotate_left
  · go_enter Try.func4, Try.ntmps4
    go_wp2_with fail
    go_ret
    exact ⟨rfl, Below.refl _ _⟩
  by_cases hn1 : n1 ≤ 1048576
  rotate_left
  · go_enter Try.func4, Try.ntmps4
    go_wp2_with (go_at_call 15; refine (szRoadS_no _ _ _ _ _ (by omega) (by omega) (by omega)).mono ?_; rintro e w' ⟨rfl, rfl⟩)
    go_ret
    exact ⟨rfl, Below.refl _ _⟩
  have hn1' : n1 ≤ 1048576 := by omega
  have hn2' : n2 ≤ 1048576 := by omega
  have Hl1 := hideIt hl1
  clear hl1
  have Hl2 := hideIt hl2
  clear hl2
  have Ho2 : Hid (∀ k, k < p2.length → IntOk (a1 p2 k)) := hideIt ho2
  clear ho2
  go_enter Try.func4, Try.ntmps4
  have bel0 : Below w.heap.size w w := Below.refl _ _
  go_wp2_with fail
  refine (szRoadS_yes _ _ _ _ _ (by omega) (by omega)).mono ?_
  rintro e w' ⟨rfl, rfl⟩
  go_wp2_with fail
  refine (toRoadS_any _ _ _ _ _ Hl1.out hn1' (hr1.below bel0 (Nat.le_refl _))).mono ?_
  rintro e w1 ⟨gs1, cs1, rfl, os11, hb1⟩
  have bel1 := bel0.trans (hb1.mono bel0.size)
  go_wp2_with fail
  refine (toIntS_any _ _ _ _ _ Hl2.out hn2' (hr2.below bel1 (Nat.le_refl _))).mono ?_
  rintro e w2 ⟨gs2, cs2, rfl, os22, hb2⟩
  have bel2 := bel1.trans (hb2.mono bel1.size)
  have os12 := own_below os11 hb2 (Nat.le_refl _)
  go_wp2_with fail
  refine (specWayLength_any _ _ _ _ _ _ _ _ _ _ Hl1.out hn1' (Rd.of_own os12) Hl2.out hn2' (Rd.of_own os22)).mono ?_
  rintro e w3 ⟨rfl, hb3⟩
  have bel3 := bel2.trans (hb3.mono bel2.size)
  have os13 := own_below os12 hb3 (Nat.le_refl _)
  have os23 := own_below os22 hb3 (Nat.le_refl _)
  go_wp2_with fail
  refine (toRoadS_any _ _ _ _ _ Hl1.out hn1' (hr1.below bel3 (Nat.le_refl _))).mono ?_
  rintro e w4 ⟨gx1, cx1, rfl, ox14, hb4⟩
  have bel4 := bel3.trans (hb4.mono bel3.size)
  have os14 := own_below os13 hb4 (Nat.le_refl _)
  have os24 := own_below os23 hb4 (Nat.le_refl _)
  go_wp2_with fail
  refine (toIntS_any _ _ _ _ _ Hl2.out hn2' (hr2.below bel4 (Nat.le_refl _))).mono ?_
  rintro e w5 ⟨gx2, cx2, rfl, ox25, hb5⟩
  have bel5 := bel4.trans (hb5.mono bel4.size)
  have os15 := own_below os14 hb5 (Nat.le_refl _)
  have os25 := own_below os24 hb5 (Nat.le_refl _)
  have ox15 := own_below ox14 hb5 (Nat.le_refl _)
  go_wp2_with fail
  refine (implWayLength_any _ _ _ _ _ _ _ _ _ _ Hl1.out hn1' (Rd.of_own ox15) Hl2.out hn2' (Rd.of_own ox25) (own_cap ox25) Ho2.out).mono ?_
  rintro e w6 ⟨rfl, hb6⟩
  have bel6 := bel5.trans (hb6.mono bel5.size)
  have os16 := own_below os15 hb6 (Nat.le_refl _)
  have os26 := own_below os25 hb6 (Nat.le_refl _)
  have ox16 := own_below ox15 hb6 (Nat.le_refl _)
  have ox26 := own_below ox25 hb6 (Nat.le_refl _)
  go_wp2_with fail
  refine (toRoadS_any _ _ _ _ _ Hl1.out hn1' (hr1.below bel6 (Nat.le_refl _))).mono ?_
  rintro e w7 ⟨gy1, cy1, rfl, oy17, hb7⟩
  have bel7 := bel6.trans (hb7.mono bel6.size)
  have os17 := own_below os16 hb7 (Nat.le_refl _)
  have os27 := own_below os26 hb7 (Nat.le_refl _)
  have ox17 := own_below ox16 hb7 (Nat.le_refl _)
  have ox27 := own_below ox26 hb7 (Nat.le_refl _)
  go_wp2_with fail
  refine (eqRoadS_any _ _ _ _ _ _ _ _ _ Hl1.out Hl1.out hn1' hn1' (Rd.of_own ox17) (Rd.of_own oy17)).mono ?_
  rintro e w8 ⟨rfl, hb8⟩
  have bel8 := bel7.trans (hb8.mono bel7.size)
  have os18 := own_below os17 hb8 (Nat.le_refl _)
  have os28 := own_below os27 hb8 (Nat.le_refl _)
  have ox18 := own_below ox17 hb8 (Nat.le_refl _)
  have ox28 := own_below ox27 hb8 (Nat.le_refl _)
  have oy18 := own_below oy17 hb8 (Nat.le_refl _)
  go_wp2_with fail
  refine (toIntS_any _ _ _ _ _ Hl2.out hn2' (hr2.below bel8 (Nat.le_refl _))).mono ?_
  rintro e w9 ⟨gy2, cy2, rfl, oy29, hb9⟩
  have bel9 := bel8.trans (hb9.mono bel8.size)
  have os19 := own_below os18 hb9 (Nat.le_refl _)
  have os29 := own_below os28 hb9 (Nat.le_refl _)
  have ox19 := own_below ox18 hb9 (Nat.le_refl _)
  have ox29 := own_below ox28 hb9 (Nat.le_refl _)
  have oy19 := own_below oy18 hb9 (Nat.le_refl _)
  go_wp2_with fail
  refine (eqIntS_any _ _ _ _ _ _ _ _ _ Hl2.out Hl2.out hn2' hn2' (Rd.of_own ox29) (Rd.of_own oy29)).mono ?_
  rintro e w10 ⟨rfl, hb10⟩
  have bel10 := bel9.trans (hb10.mono bel9.size)
  have os110 := own_below os19 hb10 (Nat.le_refl _)
  have os210 := own_below os29 hb10 (Nat.le_refl _)
  have ox110 := own_below ox19 hb10 (Nat.le_refl _)
  have ox210 := own_below ox29 hb10 (Nat.le_refl _)
  have oy110 := own_below oy19 hb10 (Nat.le_refl _)
  have oy210 := own_below oy29 hb10 (Nat.le_refl _)
  go_wp2
  go_ret
  exact ⟨rfl, bel10⟩

set_option maxRecDepth 100000 in
theorem lifted (os : Os) (started : os.Started) (H : Type) (enc : TypeId × Value → H) :
    ReturnsInHanded {} Try.checked os 4 .any (Rows.fnExactWayLengthSpec.pre6 enc Try.prog Try.f4 Rows.fnExactWayLengthRow.domain false) (Rows.fnExactWayLengthSpec.post enc Try.prog Try.f4 false true false false) := by
  refine returnsInHanded_of_change (C := Try.checked) own started (by kernel_rfl) Try.func4
    (ChangeSpec.witness6 (enc := enc) (C := Try.checked) false ⟨#[], #[.int .i64 0, .slice none 0 0, .slice none 0 0], []⟩ 8 (by kernel_rfl) (by kernel_rfl) (by kernel_rfl) (by kernel_rfl)) ?_
  intro W base args ds gs before hval0 hW hcnd _
  have hval : ∀ (j : Nat) t v, Try.f4.params[j]? = some t → args[j]? = some v → Value.okWide Try.prog W .any base t v := hval0
  have hW' := hW
  obtain ⟨p, q, hA0, hV, rfl, hfz, hnd⟩ := hW
  have hA : DataW.TrodAll enc Try.prog W 0 (fun _ => true) true Try.f4.params.toList args.toList ds p := hA0
  rw [Try.params4] at hA hval
  obtain ⟨v0, vs0, d0, ds0, p0, q0, hargs, rfl, rfl, h0, r0⟩ := trodAll_cons hA
  obtain ⟨v1, vs1, d1, ds1, p1, q1, rfl, rfl, rfl, h1, r1⟩ := trodAll_cons r0
  obtain ⟨v2, vs2, d2, ds2, p2, q2, rfl, rfl, rfl, h2, r2⟩ := trodAll_cons r1
  obtain ⟨rfl, rfl, rfl⟩ := trodAll_nil r2
  obtain rfl : args = #[v0, v1, v2] := by cases args; simp_all
  obtain ⟨rfl, rfl⟩ := trodVars_none hV
  have lt0 : ∀ x ∈ p0, x.block < W.heap.size := by obtain ⟨m, hm⟩ := h0; exact DataW.trod_lt m _ _ _ hm
  have k0 := h0
  obtain ⟨x0, rfl, rfl, rfl, wx0⟩ := open_int Try.underlying3 (hval 0 3 v0 rfl rfl) h0
  have wy0 : -9223372036854775808 ≤ x0 ∧ x0 ≤ 9223372036854775807 := by simpa [Lit.wf, IntKind.min, IntKind.max, IntKind.signed, IntKind.bits] using wx0
  have lt1 : ∀ x ∈ p1, x.block < W.heap.size := by obtain ⟨m, hm⟩ := h1; exact DataW.trod_lt m _ _ _ hm
  have k1 := h1
  obtain ⟨a1, len1, cap1, rfl⟩ := okWide_slice Try.underlying22 (hval 1 22 v1 rfl rfl)
  obtain ⟨z1, l1, w1, m1⟩ : ∃ xs : List (Int × Int × Int), xs.length = len1 ∧ Rd W a1 (fl3 xs) ∧ len1 ≤ maxLen := by
    obtain ⟨fuel, hf⟩ := h1
    exact open_recs (s := 3) enc3 enc3_len (by omega) Try.underlying22 (by kernel_rfl) (cells3 Try.underlying63 (by kernel_rfl) (by kernel_rfl) Try.underlying3 Try.underlying3 Try.underlying3) (by simpa [Value.cells] using hf)
  have lt2 : ∀ x ∈ p2, x.block < W.heap.size := by obtain ⟨m, hm⟩ := h2; exact DataW.trod_lt m _ _ _ hm
  have k2 := h2
  obtain ⟨a2, len2, cap2, rfl⟩ := okWide_slice Try.underlying24 (hval 2 24 v2 rfl rfl)
  obtain ⟨z2, l2, w2, m2, o2⟩ : ∃ xs : List Int, xs.length = len2 ∧ Rd W a2 (fl1 xs) ∧ len2 ≤ maxLen ∧ ∀ k, k < xs.length → IntOk (xs.getD k 0) := by
    obtain ⟨fuel, hf⟩ := h2
    exact open_ints64 Try.underlying24 (by kernel_rfl) (cellsI Try.underlying3) (by simpa [Value.cells] using hf)
  clear hA0 hval0
  refine (walk x0 a1 z1 len1 cap1 a2 z2 len2 cap2 W wy0 l1 m1 w1 l2 m2 w2 o2).mono fun e W' ⟨he, bel⟩ => ?_
  subst he
  exact ⟨_, rfl, _, _, _, [], _, [], hW', trodAll_mk1 (shut_bool Try.underlying4 _), (trodAll_cons_mk (Below.trod laidOut (by kernel_rfl) (of_decide_eq_true (by kernel_rfl)) k0 bel lt0) (trodAll_cons_mk (Below.trod laidOut (by kernel_rfl) (of_decide_eq_true (by kernel_rfl)) k1 bel lt1) (trodAll_cons_mk (Below.trod laidOut (by kernel_rfl) (of_decide_eq_true (by kernel_rfl)) k2 bel lt2) trodAll_mk0))), rfl, bel.frame _, fun h => by cases h⟩

theorem proved : Rows.FnExactWayLengthSaid :=
  OpenClaim.holds_of_wide 4 Try.f4 rfl rfl rfl rfl rfl rfl rfl ⟨rfl, rfl, rfl, rfl, rfl⟩ rfl rfl rfl rfl rfl (by kernel_rfl) Try.func4 (by kernel_rfl)
    (of_decide_eq_true (by kernel_rfl)) (by unfold Func.isWrapper; first | (rw [if_pos (by decide +kernel)]; kernel_rfl) | (rw [if_neg (by decide +kernel)]; exact ⟨rfl, rfl⟩))
    (fun os started H enc _ => lifted os started H enc)
end Go.Proofs.Ytpiknklaikcilaa.exWayLength

/- Proves FnExactPartsSell: for every input the program's PartsSell returns what the reference's returns, leaves its arguments as they were and shares no memory; the law returns true. No condition. -/
import Derived.Test.YtfnpkbfgemcbaaaRows
import Derived.Test.YtfnpkbfgemcbaaaOpen
import Derived.Test.YtfnpkbfgemcbaaaPa2
import Derived.Test.YtfnpkbfgemcbaaaPs4
namespace Go.Proofs.Ytfnpkbfgemcbaaa.exPartsSell
open Go.ChangeShapes Go.WideShapes Go.ChangeAt Go.RowKit

theorem own : ownKnob Try.prog.godebug = none := by kernel_rfl
theorem laidOut : laidOutB Try.prog = true := by kernel_rfl

set_option maxHeartbeats 4000000 in
theorem walk (A0 : Option Addr) (p0 : List (Int × Int)) (n0 c0 : Nat) (v1 : Int) (v2 : Int) (v3 : Int) (w : World) (hl0 : p0.length = n0) (hm0 : n0 ≤ maxLen) (hr0 : Rd w A0 (fl2 p0)) (_wf1 : -9223372036854775808 ≤ v1 ∧ v1 ≤ 9223372036854775807) (_wf2 : -9223372036854775808 ≤ v2 ∧ v2 ≤ 9223372036854775807) (_wf3 : -9223372036854775808 ≤ v3 ∧ v3 ≤ 9223372036854775807) :
    Calls Try.prog 3 #[.slice A0 n0 c0, .int .i64 v1, .int .i64 v2, .int .i64 v3] w (Ret w (.bool true)) := by
  unfold maxLen at hm0
  by_cases hn0 : n0 ≤ 1048576
  rotate_left
  · go_enter Try.func3, Try.ntmps3
    go_wp2_with (go_at_call 9; refine (szPartS_no _ _ _ _ _ (by omega) (by omega) (by omega)).mono ?_; rintro e w' ⟨rfl, rfl⟩)
    go_ret
    exact ⟨rfl, Below.refl _ _⟩
  have hn0' : n0 ≤ 1048576 := by omega
  have Hl0 := hideIt hl0
  clear hl0
  go_enter Try.func3, Try.ntmps3
  have bel0 : Below w.heap.size w w := Below.refl _ _
  go_wp2_with fail
  refine (szPartS_yes _ _ _ _ _ (by omega) (by omega)).mono ?_
  rintro e w' ⟨rfl, rfl⟩
  go_wp2_with fail
  refine (toPartS_any _ _ _ _ _ Hl0.out hn0' (hr0.below bel0 (Nat.le_refl _))).mono ?_
  rintro e w1 ⟨gs0, cs0, rfl, os01, hb1⟩
  have bel1 := bel0.trans (hb1.mono bel0.size)
  go_wp2_with fail
  refine (specPartsSell_any _ _ _ _ _ _ _ _ Hl0.out hn0' (Rd.of_own os01)).mono ?_
  rintro e w2 ⟨Aw, cw, rfl, ow2, hb2⟩
  have bel2 := bel1.trans (hb2.mono bel1.size)
  have os02 := own_below os01 hb2 (Nat.le_refl _)
  go_wp2_with fail
  refine (toPartS_any _ _ _ _ _ Hl0.out hn0' (hr0.below bel2 (Nat.le_refl _))).mono ?_
  rintro e w3 ⟨gx0, cx0, rfl, ox03, hb3⟩
  have bel3 := bel2.trans (hb3.mono bel2.size)
  have os03 := own_below os02 hb3 (Nat.le_refl _)
  have ow3 := own_below ow2 hb3 (Nat.le_refl _)
  go_wp2_with fail
  refine (implPartsSell_any _ _ _ _ _ _ _ _ Hl0.out hn0' (Rd.of_own ox03)).mono ?_
  rintro e w4 ⟨Ag, cg, rfl, og4, hb4⟩
  have bel4 := bel3.trans (hb4.mono bel3.size)
  have os04 := own_below os03 hb4 (Nat.le_refl _)
  have ow4 := own_below ow3 hb4 (Nat.le_refl _)
  have ox04 := own_below ox03 hb4 (Nat.le_refl _)
  go_wp2_with fail
  refine (eqPartS_any _ _ _ _ _ _ _ _ _ rfl rfl (partsSell_le p0 v1 v2 v3) (partsSell_le p0 v1 v2 v3) (Rd.of_own og4) (Rd.of_own ow4)).mono ?_
  rintro e w5 ⟨rfl, hb5⟩
  have bel5 := bel4.trans (hb5.mono bel4.size)
  have os05 := own_below os04 hb5 (Nat.le_refl _)
  have ow5 := own_below ow4 hb5 (Nat.le_refl _)
  have ox05 := own_below ox04 hb5 (Nat.le_refl _)
  have og5 := own_below og4 hb5 (Nat.le_refl _)
  go_wp2_with fail
  refine (toPartS_any _ _ _ _ _ Hl0.out hn0' (hr0.below bel5 (Nat.le_refl _))).mono ?_
  rintro e w6 ⟨gy0, cy0, rfl, oy06, hb6⟩
  have bel6 := bel5.trans (hb6.mono bel5.size)
  have os06 := own_below os05 hb6 (Nat.le_refl _)
  have ow6 := own_below ow5 hb6 (Nat.le_refl _)
  have ox06 := own_below ox05 hb6 (Nat.le_refl _)
  have og6 := own_below og5 hb6 (Nat.le_refl _)
  go_wp2_with fail
  refine (eqPartS_any _ _ _ _ _ _ _ _ _ Hl0.out Hl0.out hn0' hn0' (Rd.of_own ox06) (Rd.of_own oy06)).mono ?_
  rintro e w7 ⟨rfl, hb7⟩
  have bel7 := bel6.trans (hb7.mono bel6.size)
  have os07 := own_below os06 hb7 (Nat.le_refl _)
  have ow7 := own_below ow6 hb7 (Nat.le_refl _)
  have ox07 := own_below ox06 hb7 (Nat.le_refl _)
  have og7 := own_below og6 hb7 (Nat.le_refl _)
  have oy07 := own_below oy06 hb7 (Nat.le_refl _)
  have z2_3 : w2.heap.size ≤ w3.heap.size := hb3.size
  go_wp2_with fail
  refine (markPartS_any _ _ _ _ _ _ _ Hl0.out hn0' (by omega) (by omega) ox07).mono ?_
  rintro e w8 ⟨rfl, ox08, hg8⟩
  have bel8 := bel7.grown hg8 bel7.size (fun j hj => Nat.le_trans bel2.size (ox07.lt j hj).1)
  have ow8 := ow7.kept hg8 (own_apart_l (B := w2.heap.size) (fun j hj => (ow2.lt j hj).2) (fun j hj => (ox07.lt j hj).1))
  have og8 := og7.kept hg8 (own_apart_r (B := w3.heap.size) (fun j hj => (ox03.lt j hj).2) (fun j hj => (og7.lt j hj).1))
  go_wp2_with fail
  refine (eqPartS_any _ _ _ _ _ _ _ _ _ rfl rfl (partsSell_le p0 v1 v2 v3) (partsSell_le p0 v1 v2 v3) (Rd.of_own og8) (Rd.of_own ow8)).mono ?_
  rintro e w9 ⟨rfl, hb9⟩
  have bel9 := bel8.trans (hb9.mono bel8.size)
  have ow9 := own_below ow8 hb9 (Nat.le_refl _)
  have og9 := own_below og8 hb9 (Nat.le_refl _)
  go_wp2_with fail
  refine (markPartS_any _ _ _ _ _ _ _ rfl (partsSell_le p0 v1 v2 v3) (by omega) (by omega) og9).mono ?_
  rintro e w10 ⟨rfl, og10, hg10⟩
  have bel10 := bel9.grown hg10 bel9.size (fun j hj => Nat.le_trans bel3.size (og9.lt j hj).1)
  have ow10 := ow9.kept hg10 (own_apart_l (B := w2.heap.size) (fun j hj => (ow2.lt j hj).2) (fun j hj => Nat.le_trans z2_3 (og9.lt j hj).1))
  go_wp2_with fail
  refine (heldPartS_any _ _ _ _ _ (partsSell_le p0 v1 v2 v3) (by omega) (by omega) (Rd.of_own og10)).mono ?_
  rintro e w' ⟨rfl, rfl⟩
  go_wp2_with fail
  refine (toPartS_any _ _ _ _ _ Hl0.out hn0' (hr0.below bel10 (Nat.le_refl _))).mono ?_
  rintro e w11 ⟨gt0, ct0, rfl, ot011, hb11⟩
  have bel11 := bel10.trans (hb11.mono bel10.size)
  have ow11 := own_below ow10 hb11 (Nat.le_refl _)
  have og11 := own_below og10 hb11 (Nat.le_refl _)
  go_wp2_with fail
  refine (implPartsSell_any _ _ _ _ _ _ _ _ Hl0.out hn0' (Rd.of_own ot011)).mono ?_
  rintro e w12 ⟨Ah, ch, rfl, oh12, hb12⟩
  have bel12 := bel11.trans (hb12.mono bel11.size)
  have ow12 := own_below ow11 hb12 (Nat.le_refl _)
  have og12 := own_below og11 hb12 (Nat.le_refl _)
  have ot012 := own_below ot011 hb12 (Nat.le_refl _)
  go_wp2_with fail
  refine (eqPartS_any _ _ _ _ _ _ _ _ _ rfl rfl (partsSell_le p0 v1 v2 v3) (partsSell_le p0 v1 v2 v3) (Rd.of_own oh12) (Rd.of_own ow12)).mono ?_
  rintro e w13 ⟨rfl, hb13⟩
  have bel13 := bel12.trans (hb13.mono bel12.size)
  have ow13 := own_below ow12 hb13 (Nat.le_refl _)
  have og13 := own_below og12 hb13 (Nat.le_refl _)
  have ot013 := own_below ot012 hb13 (Nat.le_refl _)
  have oh13 := own_below oh12 hb13 (Nat.le_refl _)
  go_wp2_with fail
  refine (heldPartS_any _ _ _ _ _ (partsSell_le p0 v1 v2 v3) (by omega) (by omega) (Rd.of_own og13)).mono ?_
  rintro e w' ⟨rfl, rfl⟩
  go_wp2
  go_ret
  exact ⟨rfl, bel13⟩

set_option maxRecDepth 100000 in
theorem lifted (os : Os) (started : os.Started) (H : Type) (enc : TypeId × Value → H) :
    ReturnsInHanded {} Try.checked os 3 .any (Rows.fnExactPartsSellSpec.pre6 enc Try.prog Try.f3 Rows.fnExactPartsSellRow.domain false) (Rows.fnExactPartsSellSpec.post enc Try.prog Try.f3 false true false false) := by
  refine returnsInHanded_of_change (C := Try.checked) own started (by kernel_rfl) Try.func3
    (ChangeSpec.witness6 (enc := enc) (C := Try.checked) false ⟨#[], #[.slice none 0 0, .int .i64 0, .int .i64 0, .int .i64 0], []⟩ 8 (by kernel_rfl) (by kernel_rfl) (by kernel_rfl) (by kernel_rfl)) ?_
  intro W base args ds gs before hval0 hW hcnd _
  have hval : ∀ (j : Nat) t v, Try.f3.params[j]? = some t → args[j]? = some v → Value.okWide Try.prog W .any base t v := hval0
  have hW' := hW
  obtain ⟨p, q, hA0, hV, rfl, hfz, hnd⟩ := hW
  have hA : DataW.TrodAll enc Try.prog W 0 (fun _ => true) true Try.f3.params.toList args.toList ds p := hA0
  rw [Try.params3] at hA hval
  obtain ⟨v0, vs0, d0, ds0, p0, q0, hargs, rfl, rfl, h0, r0⟩ := trodAll_cons hA
  obtain ⟨v1, vs1, d1, ds1, p1, q1, rfl, rfl, rfl, h1, r1⟩ := trodAll_cons r0
  obtain ⟨v2, vs2, d2, ds2, p2, q2, rfl, rfl, rfl, h2, r2⟩ := trodAll_cons r1
  obtain ⟨v3, vs3, d3, ds3, p3, q3, rfl, rfl, rfl, h3, r3⟩ := trodAll_cons r2
  obtain ⟨rfl, rfl, rfl⟩ := trodAll_nil r3
  obtain rfl : args = #[v0, v1, v2, v3] := by cases args; simp_all
  obtain ⟨rfl, rfl⟩ := trodVars_none hV
  have lt0 : ∀ x ∈ p0, x.block < W.heap.size := by obtain ⟨m, hm⟩ := h0; exact DataW.trod_lt m _ _ _ hm
  have k0 := h0
  obtain ⟨a0, len0, cap0, rfl⟩ := okWide_slice Try.underlying22 (hval 0 22 v0 rfl rfl)
  obtain ⟨z0, l0, w0, m0⟩ : ∃ xs : List (Int × Int), xs.length = len0 ∧ Rd W a0 (fl2 xs) ∧ len0 ≤ maxLen := by
    obtain ⟨fuel, hf⟩ := h0
    exact open_recs (s := 2) enc2 enc2_len (by omega) Try.underlying22 (by kernel_rfl) (cells2 Try.underlying57 (by kernel_rfl) (by kernel_rfl) Try.underlying3 Try.underlying3) (by simpa [Value.cells] using hf)
  have lt1 : ∀ x ∈ p1, x.block < W.heap.size := by obtain ⟨m, hm⟩ := h1; exact DataW.trod_lt m _ _ _ hm
  have k1 := h1
  obtain ⟨x1, rfl, rfl, rfl, wx1⟩ := open_int Try.underlying3 (hval 1 3 v1 rfl rfl) h1
  have wy1 : -9223372036854775808 ≤ x1 ∧ x1 ≤ 9223372036854775807 := by simpa [Lit.wf, IntKind.min, IntKind.max, IntKind.signed, IntKind.bits] using wx1
  have lt2 : ∀ x ∈ p2, x.block < W.heap.size := by obtain ⟨m, hm⟩ := h2; exact DataW.trod_lt m _ _ _ hm
  have k2 := h2
  obtain ⟨x2, rfl, rfl, rfl, wx2⟩ := open_int Try.underlying3 (hval 2 3 v2 rfl rfl) h2
  have wy2 : -9223372036854775808 ≤ x2 ∧ x2 ≤ 9223372036854775807 := by simpa [Lit.wf, IntKind.min, IntKind.max, IntKind.signed, IntKind.bits] using wx2
  have lt3 : ∀ x ∈ p3, x.block < W.heap.size := by obtain ⟨m, hm⟩ := h3; exact DataW.trod_lt m _ _ _ hm
  have k3 := h3
  obtain ⟨x3, rfl, rfl, rfl, wx3⟩ := open_int Try.underlying3 (hval 3 3 v3 rfl rfl) h3
  have wy3 : -9223372036854775808 ≤ x3 ∧ x3 ≤ 9223372036854775807 := by simpa [Lit.wf, IntKind.min, IntKind.max, IntKind.signed, IntKind.bits] using wx3
  clear hA0 hval0
  refine (walk a0 z0 len0 cap0 x1 x2 x3 W l0 m0 w0 wy1 wy2 wy3).mono fun e W' ⟨he, bel⟩ => ?_
  subst he
  exact ⟨_, rfl, _, _, _, [], _, [], hW', trodAll_mk1 (shut_bool Try.underlying4 _), (trodAll_cons_mk (Below.trod laidOut (by kernel_rfl) (of_decide_eq_true (by kernel_rfl)) k0 bel lt0) (trodAll_cons_mk (Below.trod laidOut (by kernel_rfl) (of_decide_eq_true (by kernel_rfl)) k1 bel lt1) (trodAll_cons_mk (Below.trod laidOut (by kernel_rfl) (of_decide_eq_true (by kernel_rfl)) k2 bel lt2) (trodAll_cons_mk (Below.trod laidOut (by kernel_rfl) (of_decide_eq_true (by kernel_rfl)) k3 bel lt3) trodAll_mk0)))), rfl, bel.frame _, fun h => by cases h⟩

theorem proved : Rows.FnExactPartsSellSaid :=
  OpenClaim.holds_of_wide 3 Try.f3 rfl rfl rfl rfl rfl rfl rfl ⟨rfl, rfl, rfl, rfl, rfl⟩ rfl rfl rfl rfl rfl (by kernel_rfl) Try.func3 (by kernel_rfl)
    (of_decide_eq_true (by kernel_rfl)) (by unfold Func.isWrapper; first | (rw [if_pos (by decide +kernel)]; kernel_rfl) | (rw [if_neg (by decide +kernel)]; exact ⟨rfl, rfl⟩))
    (fun os started H enc _ => lifted os started H enc)
end Go.Proofs.Ytfnpkbfgemcbaaa.exPartsSell

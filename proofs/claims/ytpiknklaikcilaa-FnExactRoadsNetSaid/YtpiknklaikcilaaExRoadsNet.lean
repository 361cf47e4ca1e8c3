/- Proves FnExactRoadsNet: for every input the program's RoadsNet returns what the reference's returns, leaves its arguments as they were and shares no memory; the law returns true. No condition. -/
import Derived.Test.YtpiknklaikcilaaRows
import Derived.Test.YtpiknklaikcilaaOpen
import Derived.Test.YtpiknklaikcilaaHpRoad
import Derived.Test.YtpiknklaikcilaaInt
import Derived.Test.YtpiknklaikcilaaRoNt2
namespace Go.Proofs.Ytpiknklaikcilaa.exRoadsNet
open Go.ChangeShapes Go.WideShapes Go.ChangeAt Go.RowKit

theorem own : ownKnob Try.prog.godebug = none := by kernel_rfl
theorem laidOut : laidOutB Try.prog = true := by kernel_rfl

set_option maxHeartbeats 4000000 in
theorem walk (v0 : Int) (A1 : Option Addr) (p1 : List (Int × Int × Int)) (n1 c1 : Nat) (w : World) (_wf0 : -9223372036854775808 ≤ v0 ∧ v0 ≤ 9223372036854775807) (hl1 : p1.length = n1) (hm1 : n1 ≤ maxLen) (hr1 : Rd w A1 (fl3 p1)) :
    Calls Try.prog 3 #[.int .i64 v0, .slice A1 n1 c1] w (Ret w (.bool true)) := by
  unfold maxLen at hm1
  by_cases hn1 : n1 ≤ 1048576
  rotate_left
  · go_enter Try.func3, Try.ntmps3
    go_wp2_with (go_at_call 15; refine (szRoadS_no _ _ _ _ _ (by omega) (by omega) (by omega)).mono ?_; rintro e w' ⟨rfl, rfl⟩)
    go_ret
    exact ⟨rfl, Below.refl _ _⟩
  have hn1' : n1 ≤ 1048576 := by omega
  have Hl1 := hideIt hl1
  clear hl1
  go_enter Try.func3, Try.ntmps3
  have bel0 : Below w.heap.size w w := Below.refl _ _
  go_wp2_with fail
  refine (szRoadS_yes _ _ _ _ _ (by omega) (by omega)).mono ?_
  rintro e w' ⟨rfl, rfl⟩
  go_wp2_with fail
  refine (toRoadS_any _ _ _ _ _ Hl1.out hn1' (hr1.below bel0 (Nat.le_refl _))).mono ?_
  rintro e w1 ⟨gs1, cs1, rfl, os11, hb1⟩
  have bel1 := bel0.trans (hb1.mono bel0.size)
  go_wp2_with fail
  refine (specRoadsNet_any _ _ _ _ _ _ Hl1.out hn1' (Rd.of_own os11)).mono ?_
  rintro e w2 ⟨Aw, cw, rfl, ow2, hb2⟩
  have bel2 := bel1.trans (hb2.mono bel1.size)
  have os12 := own_below os11 hb2 (Nat.le_refl _)
  go_wp2_with fail
  refine (toRoadS_any _ _ _ _ _ Hl1.out hn1' (hr1.below bel2 (Nat.le_refl _))).mono ?_
  rintro e w3 ⟨gx1, cx1, rfl, ox13, hb3⟩
  have bel3 := bel2.trans (hb3.mono bel2.size)
  have os13 := own_below os12 hb3 (Nat.le_refl _)
  have ow3 := own_below ow2 hb3 (Nat.le_refl _)
  go_wp2_with fail
  refine (implRoadsNet_any _ _ _ _ _ _ Hl1.out hn1' (Rd.of_own ox13)).mono ?_
  rintro e w4 ⟨Ag, cg, rfl, og4, hb4⟩
  have bel4 := bel3.trans (hb4.mono bel3.size)
  have os14 := own_below os13 hb4 (Nat.le_refl _)
  have ow4 := own_below ow3 hb4 (Nat.le_refl _)
  have ox14 := own_below ox13 hb4 (Nat.le_refl _)
  go_wp2_with fail
  refine (eqIntS_any _ _ _ _ _ _ _ _ _ rfl rfl (roadsNet_le v0 p1) (roadsNet_le v0 p1) (Rd.of_own og4) (Rd.of_own ow4)).mono ?_
  rintro e w5 ⟨rfl, hb5⟩
  have bel5 := bel4.trans (hb5.mono bel4.size)
  have os15 := own_below os14 hb5 (Nat.le_refl _)
  have ow5 := own_below ow4 hb5 (Nat.le_refl _)
  have ox15 := own_below ox14 hb5 (Nat.le_refl _)
  have og5 := own_below og4 hb5 (Nat.le_refl _)
  go_wp2_with fail
  refine (toRoadS_any _ _ _ _ _ Hl1.out hn1' (hr1.below bel5 (Nat.le_refl _))).mono ?_
  rintro e w6 ⟨gy1, cy1, rfl, oy16, hb6⟩
  have bel6 := bel5.trans (hb6.mono bel5.size)
  have os16 := own_below os15 hb6 (Nat.le_refl _)
  have ow6 := own_below ow5 hb6 (Nat.le_refl _)
  have ox16 := own_below ox15 hb6 (Nat.le_refl _)
  have og6 := own_below og5 hb6 (Nat.le_refl _)
  go_wp2_with fail
  refine (eqRoadS_any _ _ _ _ _ _ _ _ _ Hl1.out Hl1.out hn1' hn1' (Rd.of_own ox16) (Rd.of_own oy16)).mono ?_
  rintro e w7 ⟨rfl, hb7⟩
  have bel7 := bel6.trans (hb7.mono bel6.size)
  have os17 := own_below os16 hb7 (Nat.le_refl _)
  have ow7 := own_below ow6 hb7 (Nat.le_refl _)
  have ox17 := own_below ox16 hb7 (Nat.le_refl _)
  have og7 := own_below og6 hb7 (Nat.le_refl _)
  have oy17 := own_below oy16 hb7 (Nat.le_refl _)
  have z2_3 : w2.heap.size ≤ w3.heap.size := hb3.size
  go_wp2_with fail
  refine (markRoadS_any _ _ _ _ _ _ _ Hl1.out hn1' (by omega) (by omega) ox17).mono ?_
  rintro e w8 ⟨rfl, ox18, hg8⟩
  have bel8 := bel7.grown hg8 bel7.size (fun j hj => Nat.le_trans bel2.size (ox17.lt j hj).1)
  have ow8 := ow7.kept hg8 (own_apart_l (B := w2.heap.size) (fun j hj => (ow2.lt j hj).2) (fun j hj => (ox17.lt j hj).1))
  have og8 := og7.kept hg8 (own_apart_r (B := w3.heap.size) (fun j hj => (ox13.lt j hj).2) (fun j hj => (og7.lt j hj).1))
  go_wp2_with fail
  refine (eqIntS_any _ _ _ _ _ _ _ _ _ rfl rfl (roadsNet_le v0 p1) (roadsNet_le v0 p1) (Rd.of_own og8) (Rd.of_own ow8)).mono ?_
  rintro e w9 ⟨rfl, hb9⟩
  have bel9 := bel8.trans (hb9.mono bel8.size)
  have ow9 := own_below ow8 hb9 (Nat.le_refl _)
  have og9 := own_below og8 hb9 (Nat.le_refl _)
  go_wp2_with fail
  refine (markIntS_any _ _ _ _ _ _ _ rfl (roadsNet_le v0 p1) (by omega) (by omega) og9).mono ?_
  rintro e w10 ⟨rfl, og10, hg10⟩
  have bel10 := bel9.grown hg10 bel9.size (fun j hj => Nat.le_trans bel3.size (og9.lt j hj).1)
  have ow10 := ow9.kept hg10 (own_apart_l (B := w2.heap.size) (fun j hj => (ow2.lt j hj).2) (fun j hj => Nat.le_trans z2_3 (og9.lt j hj).1))
  go_wp2_with fail
  refine (heldIntS_any _ _ _ _ _ (roadsNet_le v0 p1) (by omega) (by omega) (Rd.of_own og10)).mono ?_
  rintro e w' ⟨rfl, rfl⟩
  go_wp2_with fail
  refine (toRoadS_any _ _ _ _ _ Hl1.out hn1' (hr1.below bel10 (Nat.le_refl _))).mono ?_
  rintro e w11 ⟨gt1, ct1, rfl, ot111, hb11⟩
  have bel11 := bel10.trans (hb11.mono bel10.size)
  have ow11 := own_below ow10 hb11 (Nat.le_refl _)
  have og11 := own_below og10 hb11 (Nat.le_refl _)
  go_wp2_with fail
  refine (implRoadsNet_any _ _ _ _ _ _ Hl1.out hn1' (Rd.of_own ot111)).mono ?_
  rintro e w12 ⟨Ah, ch, rfl, oh12, hb12⟩
  have bel12 := bel11.trans (hb12.mono bel11.size)
  have ow12 := own_below ow11 hb12 (Nat.le_refl _)
  have og12 := own_below og11 hb12 (Nat.le_refl _)
  have ot112 := own_below ot111 hb12 (Nat.le_refl _)
  go_wp2_with fail
  refine (eqIntS_any _ _ _ _ _ _ _ _ _ rfl rfl (roadsNet_le v0 p1) (roadsNet_le v0 p1) (Rd.of_own oh12) (Rd.of_own ow12)).mono ?_
  rintro e w13 ⟨rfl, hb13⟩
  have bel13 := bel12.trans (hb13.mono bel12.size)
  have ow13 := own_below ow12 hb13 (Nat.le_refl _)
  have og13 := own_below og12 hb13 (Nat.le_refl _)
  have ot113 := own_below ot112 hb13 (Nat.le_refl _)
  have oh13 := own_below oh12 hb13 (Nat.le_refl _)
  go_wp2_with fail
  refine (heldIntS_any _ _ _ _ _ (roadsNet_le v0 p1) (by omega) (by omega) (Rd.of_own og13)).mono ?_
  rintro e w' ⟨rfl, rfl⟩
  go_wp2
  go_ret
  exact ⟨rfl, bel13⟩

set_option maxRecDepth 100000 in
theorem lifted (os : Os) (started : os.Started) (H : Type) (enc : TypeId × Value → H) :
    ReturnsInHanded {} Try.checked os 3 .any (Rows.fnExactRoadsNetSpec.pre6 enc Try.prog Try.f3 Rows.fnExactRoadsNetRow.domain false) (Rows.fnExactRoadsNetSpec.post enc Try.prog Try.f3 false true false false) := by
  refine returnsInHanded_of_change (C := Try.checked) own started (by kernel_rfl) Try.func3
    (ChangeSpec.witness6 (enc := enc) (C := Try.checked) false ⟨#[], #[.int .i64 0, .slice none 0 0], []⟩ 8 (by kernel_rfl) (by kernel_rfl) (by kernel_rfl) (by kernel_rfl)) ?_
  intro W base args ds gs before hval0 hW hcnd _
  have hval : ∀ (j : Nat) t v, Try.f3.params[j]? = some t → args[j]? = some v → Value.okWide Try.prog W .any base t v := hval0
  have hW' := hW
  obtain ⟨p, q, hA0, hV, rfl, hfz, hnd⟩ := hW
  have hA : DataW.TrodAll enc Try.prog W 0 (fun _ => true) true Try.f3.params.toList args.toList ds p := hA0
  rw [Try.params3] at hA hval
  obtain ⟨v0, vs0, d0, ds0, p0, q0, hargs, rfl, rfl, h0, r0⟩ := trodAll_cons hA
  obtain ⟨v1, vs1, d1, ds1, p1, q1, rfl, rfl, rfl, h1, r1⟩ := trodAll_cons r0
  obtain ⟨rfl, rfl, rfl⟩ := trodAll_nil r1
  obtain rfl : args = #[v0, v1] := by cases args; simp_all
  obtain ⟨rfl, rfl⟩ := trodVars_none hV
  have lt0 : ∀ x ∈ p0, x.block < W.heap.size := by obtain ⟨m, hm⟩ := h0; exact DataW.trod_lt m _ _ _ hm
  have k0 := h0
  obtain ⟨x0, rfl, rfl, rfl, wx0⟩ := open_int Try.underlying3 (hval 0 3 v0 rfl rfl) h0
  have wy0 : -9223372036854775808 ≤ x0 ∧ x0 ≤ 9223372036854775807 := by simpa [Lit.wf, IntKind.min, IntKind.max, IntKind.signed, IntKind.bits] using wx0
  have lt1 : ∀ x ∈ p1, x.block < W.heap.size := by obtain ⟨m, hm⟩ := h1; exact DataW.trod_lt m _ _ _ hm
  have k1 := h1
  obtain ⟨a1, len1, cap1, rfl⟩ := okWide_slice Try.underlying22 (hval 1 22 v1 rfl rfl)
  obtain ⟨z1, l1, w1, m1⟩ : ∃ xs : List (Int × Int × Int), xs.length = len1 ∧ Rd W a1 (fl3 xs) ∧ len1 ≤ maxLen := by
    obtain ⟨fuel, hf⟩ := h1
    exact open_recs (s := 3) enc3 enc3_len (by omega) Try.underlying22 (by kernel_rfl) (cells3 Try.underlying63 (by kernel_rfl) (by kernel_rfl) Try.underlying3 Try.underlying3 Try.underlying3) (by simpa [Value.cells] using hf)
  clear hA0 hval0
  refine (walk x0 a1 z1 len1 cap1 W wy0 l1 m1 w1).mono fun e W' ⟨he, bel⟩ => ?_
  subst he
  exact ⟨_, rfl, _, _, _, [], _, [], hW', trodAll_mk1 (shut_bool Try.underlying4 _), (trodAll_cons_mk (Below.trod laidOut (by kernel_rfl) (of_decide_eq_true (by kernel_rfl)) k0 bel lt0) (trodAll_cons_mk (Below.trod laidOut (by kernel_rfl) (of_decide_eq_true (by kernel_rfl)) k1 bel lt1) trodAll_mk0)), rfl, bel.frame _, fun h => by cases h⟩

theorem proved : Rows.FnExactRoadsNetSaid :=
  OpenClaim.holds_of_wide 3 Try.f3 rfl rfl rfl rfl rfl rfl rfl ⟨rfl, rfl, rfl, rfl, rfl⟩ rfl rfl rfl rfl rfl (by kernel_rfl) Try.func3 (by kernel_rfl)
    (of_decide_eq_true (by kernel_rfl)) (by unfold Func.isWrapper; first | (rw [if_pos (by decide +kernel)]; kernel_rfl) | (rw [if_neg (by decide +kernel)]; exact ⟨rfl, rfl⟩))
    (fun os started H enc _ => lifted os started H enc)
end Go.Proofs.Ytpiknklaikcilaa.exRoadsNet

/- Proves FnExactPartsJoin: for every input the program's PartsJoin returns what the reference's returns, leaves its arguments as they were and shares no memory; the law returns true. No condition. -/
import Derived.Test.YtingidljlfblnaaRows
import Derived.Test.YtingidljlfblnaaOpen
import Derived.Test.YtingidljlfblnaaPa2
import Derived.Test.YtingidljlfblnaaPa6
namespace Go.Proofs.Ytingidljlfblnaa.exPartsJoin
open Go.ChangeShapes Go.WideShapes Go.ChangeAt Go.RowKit

theorem own : ownKnob Try.prog.godebug = none := by kernel_rfl
theorem laidOut : laidOutB Try.prog = true := by kernel_rfl

set_option maxHeartbeats 4000000 in
theorem walk (A0 : Option Addr) (p0 : List (Int × Int)) (n0 c0 : Nat) (A1 : Option Addr) (p1 : List (Int × Int)) (n1 c1 : Nat) (w : World) (hl0 : p0.length = n0) (hm0 : n0 ≤ maxLen) (hr0 : Rd w A0 (fl2 p0)) (hl1 : p1.length = n1) (hm1 : n1 ≤ maxLen) (hr1 : Rd w A1 (fl2 p1)) :
    Calls Try.prog 7 #[.slice A0 n0 c0, .slice A1 n1 c1] w (Ret w (.bool true)) := by
  unfold maxLen at hm0
  unfold maxLen at hm1
  by_cases hn0 : n0 ≤ 1048576
  rotate_left
  · go_enter Try.func7, Try.ntmps7
    go_wp2_with (go_at_call 15; refine (szPartS_no _ _ _ _ _ (by omega) (by omega) (by omega)).mono ?_; rintro e w' ⟨rfl, rfl⟩)
    go_ret
    exact ⟨rfl, Below.refl _ _⟩
  by_cases hn1 : n0 + n1 ≤ 1048576
  rotate_left
  · go_enter Try.func7, Try.ntmps7
    go_wp2_with (first | (go_at_call 15; refine (szPartS_yes _ _ _ _ _ (by omega) (by omega)).mono ?_; rintro e w' ⟨rfl, rfl⟩) | (go_at_call 15; refine (szPartS_no _ _ _ _ _ (by omega) (by omega) (by omega)).mono ?_; rintro e w' ⟨rfl, rfl⟩))
    go_ret
    exact ⟨rfl, Below.refl _ _⟩
  have hn0' : n0 ≤ 1048576 := by omega
  have hn1' : n1 ≤ 1048576 := by omega
  have Hl0 := hideIt hl0
  clear hl0
  have Hl1 := hideIt hl1
  clear hl1
  go_enter Try.func7, Try.ntmps7
  have bel0 : Below w.heap.size w w := Below.refl _ _
  go_wp2_with fail
  refine (szPartS_yes _ _ _ _ _ (by omega) (by omega)).mono ?_
  rintro e w' ⟨rfl, rfl⟩
  go_wp2_with fail
  refine (szPartS_yes _ _ _ _ _ (by omega) (by omega)).mono ?_
  rintro e w' ⟨rfl, rfl⟩
  go_wp2_with fail
  refine (toPartS_any _ _ _ _ _ Hl0.out hn0' (hr0.below bel0 (Nat.le_refl _))).mono ?_
  rintro e w1 ⟨gs0, cs0, rfl, os01, hb1⟩
  have bel1 := bel0.trans (hb1.mono bel0.size)
  go_wp2_with fail
  refine (toPartS_any _ _ _ _ _ Hl1.out hn1' (hr1.below bel1 (Nat.le_refl _))).mono ?_
  rintro e w2 ⟨gs1, cs1, rfl, os12, hb2⟩
  have bel2 := bel1.trans (hb2.mono bel1.size)
  have os02 := own_below os01 hb2 (Nat.le_refl _)
  go_wp2_with fail
  refine (specPartsJoin_any _ _ _ _ _ _ _ _ _ Hl0.out hn0' (Rd.of_own os02) Hl1.out hn1' (Rd.of_own os12) (by omega)).mono ?_
  rintro e w3 ⟨Aw, cw, rfl, ow3, hb3⟩
  have bel3 := bel2.trans (hb3.mono bel2.size)
  have os03 := own_below os02 hb3 (Nat.le_refl _)
  have os13 := own_below os12 hb3 (Nat.le_refl _)
  go_wp2_with fail
  refine (toPartS_any _ _ _ _ _ Hl0.out hn0' (hr0.below bel3 (Nat.le_refl _))).mono ?_
  rintro e w4 ⟨gx0, cx0, rfl, ox04, hb4⟩
  have bel4 := bel3.trans (hb4.mono bel3.size)
  have os04 := own_below os03 hb4 (Nat.le_refl _)
  have os14 := own_below os13 hb4 (Nat.le_refl _)
  have ow4 := own_below ow3 hb4 (Nat.le_refl _)
  go_wp2_with fail
  refine (toPartS_any _ _ _ _ _ Hl1.out hn1' (hr1.below bel4 (Nat.le_refl _))).mono ?_
  rintro e w5 ⟨gx1, cx1, rfl, ox15, hb5⟩
  have bel5 := bel4.trans (hb5.mono bel4.size)
  have os05 := own_below os04 hb5 (Nat.le_refl _)
  have os15 := own_below os14 hb5 (Nat.le_refl _)
  have ow5 := own_below ow4 hb5 (Nat.le_refl _)
  have ox05 := own_below ox04 hb5 (Nat.le_refl _)
  go_wp2_with fail
  refine (implPartsJoin_any _ _ _ _ _ _ _ _ _ Hl0.out hn0' (Rd.of_own ox05) Hl1.out hn1' (Rd.of_own ox15)).mono ?_
  rintro e w6 ⟨Ag, cg, rfl, og6, hb6⟩
  have bel6 := bel5.trans (hb6.mono bel5.size)
  have os06 := own_below os05 hb6 (Nat.le_refl _)
  have os16 := own_below os15 hb6 (Nat.le_refl _)
  have ow6 := own_below ow5 hb6 (Nat.le_refl _)
  have ox06 := own_below ox05 hb6 (Nat.le_refl _)
  have ox16 := own_below ox15 hb6 (Nat.le_refl _)
  go_wp2_with fail
  refine (eqPartS_any _ _ _ _ _ _ _ _ _ rfl rfl (partsJoin_le p0 p1 _ _ Hl0.out Hl1.out (by omega)) (partsJoin_le p0 p1 _ _ Hl0.out Hl1.out (by omega)) (Rd.of_own og6) (Rd.of_own ow6)).mono ?_
  rintro e w7 ⟨rfl, hb7⟩
  have bel7 := bel6.trans (hb7.mono bel6.size)
  have os07 := own_below os06 hb7 (Nat.le_refl _)
  have os17 := own_below os16 hb7 (Nat.le_refl _)
  have ow7 := own_below ow6 hb7 (Nat.le_refl _)
  have ox07 := own_below ox06 hb7 (Nat.le_refl _)
  have ox17 := own_below ox16 hb7 (Nat.le_refl _)
  have og7 := own_below og6 hb7 (Nat.le_refl _)
  go_wp2_with fail
  refine (toPartS_any _ _ _ _ _ Hl0.out hn0' (hr0.below bel7 (Nat.le_refl _))).mono ?_
  rintro e w8 ⟨gy0, cy0, rfl, oy08, hb8⟩
  have bel8 := bel7.trans (hb8.mono bel7.size)
  have os08 := own_below os07 hb8 (Nat.le_refl _)
  have os18 := own_below os17 hb8 (Nat.le_refl _)
  have ow8 := own_below ow7 hb8 (Nat.le_refl _)
  have ox08 := own_below ox07 hb8 (Nat.le_refl _)
  have ox18 := own_below ox17 hb8 (Nat.le_refl _)
  have og8 := own_below og7 hb8 (Nat.le_refl _)
  go_wp2_with fail
  refine (eqPartS_any _ _ _ _ _ _ _ _ _ Hl0.out Hl0.out hn0' hn0' (Rd.of_own ox08) (Rd.of_own oy08)).mono ?_
  rintro e w9 ⟨rfl, hb9⟩
  have bel9 := bel8.trans (hb9.mono bel8.size)
  have os09 := own_below os08 hb9 (Nat.le_refl _)
  have os19 := own_below os18 hb9 (Nat.le_refl _)
  have ow9 := own_below ow8 hb9 (Nat.le_refl _)
  have ox09 := own_below ox08 hb9 (Nat.le_refl _)
  have ox19 := own_below ox18 hb9 (Nat.le_refl _)
  have og9 := own_below og8 hb9 (Nat.le_refl _)
  have oy09 := own_below oy08 hb9 (Nat.le_refl _)
  go_wp2_with fail
  refine (toPartS_any _ _ _ _ _ Hl1.out hn1' (hr1.below bel9 (Nat.le_refl _))).mono ?_
  rintro e w10 ⟨gy1, cy1, rfl, oy110, hb10⟩
  have bel10 := bel9.trans (hb10.mono bel9.size)
  have os010 := own_below os09 hb10 (Nat.le_refl _)
  have os110 := own_below os19 hb10 (Nat.le_refl _)
  have ow10 := own_below ow9 hb10 (Nat.le_refl _)
  have ox010 := own_below ox09 hb10 (Nat.le_refl _)
  have ox110 := own_below ox19 hb10 (Nat.le_refl _)
  have og10 := own_below og9 hb10 (Nat.le_refl _)
  have oy010 := own_below oy09 hb10 (Nat.le_refl _)
  go_wp2_with fail
  refine (eqPartS_any _ _ _ _ _ _ _ _ _ Hl1.out Hl1.out hn1' hn1' (Rd.of_own ox110) (Rd.of_own oy110)).mono ?_
  rintro e w11 ⟨rfl, hb11⟩
  have bel11 := bel10.trans (hb11.mono bel10.size)
  have os011 := own_below os010 hb11 (Nat.le_refl _)
  have os111 := own_below os110 hb11 (Nat.le_refl _)
  have ow11 := own_below ow10 hb11 (Nat.le_refl _)
  have ox011 := own_below ox010 hb11 (Nat.le_refl _)
  have ox111 := own_below ox110 hb11 (Nat.le_refl _)
  have og11 := own_below og10 hb11 (Nat.le_refl _)
  have oy011 := own_below oy010 hb11 (Nat.le_refl _)
  have oy111 := own_below oy110 hb11 (Nat.le_refl _)
  have z3_4 : w3.heap.size ≤ w4.heap.size := hb4.size
  have z3_5 : w3.heap.size ≤ w5.heap.size := Nat.le_trans (hb4.size) hb5.size
  have z4_5 : w4.heap.size ≤ w5.heap.size := hb5.size
  go_wp2_with fail
  refine (markPartS_any _ _ _ _ _ _ _ Hl0.out hn0' (by omega) (by omega) ox011).mono ?_
  rintro e w12 ⟨rfl, ox012, hg12⟩
  have bel12 := bel11.grown hg12 bel11.size (fun j hj => Nat.le_trans bel3.size (ox011.lt j hj).1)
  have ow12 := ow11.kept hg12 (own_apart_l (B := w3.heap.size) (fun j hj => (ow3.lt j hj).2) (fun j hj => (ox011.lt j hj).1))
  have ox112 := ox111.kept hg12 (own_apart_r (B := w4.heap.size) (fun j hj => (ox04.lt j hj).2) (fun j hj => (ox111.lt j hj).1))
  have og12 := og11.kept hg12 (own_apart_r (B := w4.heap.size) (fun j hj => (ox04.lt j hj).2) (fun j hj => Nat.le_trans z4_5 (og11.lt j hj).1))
  go_wp2_with fail
  refine (markPartS_any _ _ _ _ _ _ _ Hl1.out hn1' (by omega) (by omega) ox112).mono ?_
  rintro e w13 ⟨rfl, ox113, hg13⟩
  have bel13 := bel12.grown hg13 bel12.size (fun j hj => Nat.le_trans bel4.size (ox112.lt j hj).1)
  have ow13 := ow12.kept hg13 (own_apart_l (B := w3.heap.size) (fun j hj => (ow3.lt j hj).2) (fun j hj => Nat.le_trans z3_4 (ox112.lt j hj).1))
  have ox013 := ox012.kept hg13 (own_apart_l (B := w4.heap.size) (fun j hj => (ox04.lt j hj).2) (fun j hj => (ox112.lt j hj).1))
  have og13 := og12.kept hg13 (own_apart_r (B := w5.heap.size) (fun j hj => (ox15.lt j hj).2) (fun j hj => (og12.lt j hj).1))
  go_wp2_with fail
  refine (eqPartS_any _ _ _ _ _ _ _ _ _ rfl rfl (partsJoin_le p0 p1 _ _ Hl0.out Hl1.out (by omega)) (partsJoin_le p0 p1 _ _ Hl0.out Hl1.out (by omega)) (Rd.of_own og13) (Rd.of_own ow13)).mono ?_
  rintro e w14 ⟨rfl, hb14⟩
  have bel14 := bel13.trans (hb14.mono bel13.size)
  have ow14 := own_below ow13 hb14 (Nat.le_refl _)
  have og14 := own_below og13 hb14 (Nat.le_refl _)
  go_wp2_with fail
  refine (markPartS_any _ _ _ _ _ _ _ rfl (partsJoin_le p0 p1 _ _ Hl0.out Hl1.out (by omega)) (by omega) (by omega) og14).mono ?_
  rintro e w15 ⟨rfl, og15, hg15⟩
  have bel15 := bel14.grown hg15 bel14.size (fun j hj => Nat.le_trans bel5.size (og14.lt j hj).1)
  have ow15 := ow14.kept hg15 (own_apart_l (B := w3.heap.size) (fun j hj => (ow3.lt j hj).2) (fun j hj => Nat.le_trans z3_5 (og14.lt j hj).1))
  go_wp2_with fail
  refine (heldPartS_any _ _ _ _ _ (partsJoin_le p0 p1 _ _ Hl0.out Hl1.out (by omega)) (by omega) (by omega) (Rd.of_own og15)).mono ?_
  rintro e w' ⟨rfl, rfl⟩
  go_wp2_with fail
  refine (toPartS_any _ _ _ _ _ Hl0.out hn0' (hr0.below bel15 (Nat.le_refl _))).mono ?_
  rintro e w16 ⟨gt0, ct0, rfl, ot016, hb16⟩
  have bel16 := bel15.trans (hb16.mono bel15.size)
  have ow16 := own_below ow15 hb16 (Nat.le_refl _)
  have og16 := own_below og15 hb16 (Nat.le_refl _)
  go_wp2_with fail
  refine (toPartS_any _ _ _ _ _ Hl1.out hn1' (hr1.below bel16 (Nat.le_refl _))).mono ?_
  rintro e w17 ⟨gt1, ct1, rfl, ot117, hb17⟩
  have bel17 := bel16.trans (hb17.mono bel16.size)
  have ow17 := own_below ow16 hb17 (Nat.le_refl _)
  have og17 := own_below og16 hb17 (Nat.le_refl _)
  have ot017 := own_below ot016 hb17 (Nat.le_refl _)
  go_wp2_with fail
  refine (implPartsJoin_any _ _ _ _ _ _ _ _ _ Hl0.out hn0' (Rd.of_own ot017) Hl1.out hn1' (Rd.of_own ot117)).mono ?_
  rintro e w18 ⟨Ah, ch, rfl, oh18, hb18⟩
  have bel18 := bel17.trans (hb18.mono bel17.size)
  have ow18 := own_below ow17 hb18 (Nat.le_refl _)
  have og18 := own_below og17 hb18 (Nat.le_refl _)
  have ot018 := own_below ot017 hb18 (Nat.le_refl _)
  have ot118 := own_below ot117 hb18 (Nat.le_refl _)
  go_wp2_with fail
  refine (eqPartS_any _ _ _ _ _ _ _ _ _ rfl rfl (partsJoin_le p0 p1 _ _ Hl0.out Hl1.out (by omega)) (partsJoin_le p0 p1 _ _ Hl0.out Hl1.out (by omega)) (Rd.of_own oh18) (Rd.of_own ow18)).mono ?_
  rintro e w19 ⟨rfl, hb19⟩
  have bel19 := bel18.trans (hb19.mono bel18.size)
  have ow19 := own_below ow18 hb19 (Nat.le_refl _)
  have og19 := own_below og18 hb19 (Nat.le_refl _)
  have ot019 := own_below ot018 hb19 (Nat.le_refl _)
  have ot119 := own_below ot118 hb19 (Nat.le_refl _)
  have oh19 := own_below oh18 hb19 (Nat.le_refl _)
  go_wp2_with fail
  refine (heldPartS_any _ _ _ _ _ (partsJoin_le p0 p1 _ _ Hl0.out Hl1.out (by omega)) (by omega) (by omega) (Rd.of_own og19)).mono ?_
  rintro e w' ⟨rfl, rfl⟩
  go_wp2
  go_ret
  exact ⟨rfl, bel19⟩

set_option maxRecDepth 100000 in
theorem lifted (os : Os) (started : os.Started) (H : Type) (enc : TypeId × Value → H) :
    ReturnsInHanded {} Try.checked os 7 .any (Rows.fnExactPartsJoinSpec.pre6 enc Try.prog Try.f7 Rows.fnExactPartsJoinRow.domain false) (Rows.fnExactPartsJoinSpec.post enc Try.prog Try.f7 false true false false) := by
  refine returnsInHanded_of_change (C := Try.checked) own started (by kernel_rfl) Try.func7
    (ChangeSpec.witness6 (enc := enc) (C := Try.checked) false ⟨#[], #[.slice none 0 0, .slice none 0 0], []⟩ 8 (by kernel_rfl) (by kernel_rfl) (by kernel_rfl) (by kernel_rfl)) ?_
  intro W base args ds gs before hval0 hW hcnd _
  have hval : ∀ (j : Nat) t v, Try.f7.params[j]? = some t → args[j]? = some v → Value.okWide Try.prog W .any base t v := hval0
  have hW' := hW
  obtain ⟨p, q, hA0, hV, rfl, hfz, hnd⟩ := hW
  have hA : DataW.TrodAll enc Try.prog W 0 (fun _ => true) true Try.f7.params.toList args.toList ds p := hA0
  rw [Try.params7] at hA hval
  obtain ⟨v0, vs0, d0, ds0, p0, q0, hargs, rfl, rfl, h0, r0⟩ := trodAll_cons hA
  obtain ⟨v1, vs1, d1, ds1, p1, q1, rfl, rfl, rfl, h1, r1⟩ := trodAll_cons r0
  obtain ⟨rfl, rfl, rfl⟩ := trodAll_nil r1
  obtain rfl : args = #[v0, v1] := by cases args; simp_all
  obtain ⟨rfl, rfl⟩ := trodVars_none hV
  have lt0 : ∀ x ∈ p0, x.block < W.heap.size := by obtain ⟨m, hm⟩ := h0; exact DataW.trod_lt m _ _ _ hm
  have k0 := h0
  obtain ⟨a0, len0, cap0, rfl⟩ := okWide_slice Try.underlying22 (hval 0 22 v0 rfl rfl)
  obtain ⟨z0, l0, w0, m0⟩ : ∃ xs : List (Int × Int), xs.length = len0 ∧ Rd W a0 (fl2 xs) ∧ len0 ≤ maxLen := by
    obtain ⟨fuel, hf⟩ := h0
    exact open_recs (s := 2) enc2 enc2_len (by omega) Try.underlying22 (by kernel_rfl) (cells2 Try.underlying57 (by kernel_rfl) (by kernel_rfl) Try.underlying3 Try.underlying3) (by simpa [Value.cells] using hf)
  have lt1 : ∀ x ∈ p1, x.block < W.heap.size := by obtain ⟨m, hm⟩ := h1; exact DataW.trod_lt m _ _ _ hm
  have k1 := h1
  obtain ⟨a1, len1, cap1, rfl⟩ := okWide_slice Try.underlying22 (hval 1 22 v1 rfl rfl)
  obtain ⟨z1, l1, w1, m1⟩ : ∃ xs : List (Int × Int), xs.length = len1 ∧ Rd W a1 (fl2 xs) ∧ len1 ≤ maxLen := by
    obtain ⟨fuel, hf⟩ := h1
    exact open_recs (s := 2) enc2 enc2_len (by omega) Try.underlying22 (by kernel_rfl) (cells2 Try.underlying57 (by kernel_rfl) (by kernel_rfl) Try.underlying3 Try.underlying3) (by simpa [Value.cells] using hf)
  clear hA0 hval0
  refine (walk a0 z0 len0 cap0 a1 z1 len1 cap1 W l0 m0 w0 l1 m1 w1).mono fun e W' ⟨he, bel⟩ => ?_
  subst he
  exact ⟨_, rfl, _, _, _, [], _, [], hW', trodAll_mk1 (shut_bool Try.underlying4 _), (trodAll_cons_mk (Below.trod laidOut (by kernel_rfl) (of_decide_eq_true (by kernel_rfl)) k0 bel lt0) (trodAll_cons_mk (Below.trod laidOut (by kernel_rfl) (of_decide_eq_true (by kernel_rfl)) k1 bel lt1) trodAll_mk0)), rfl, bel.frame _, fun h => by cases h⟩

theorem proved : Rows.FnExactPartsJoinSaid :=
  OpenClaim.holds_of_wide 7 Try.f7 rfl rfl rfl rfl rfl rfl rfl ⟨rfl, rfl, rfl, rfl, rfl⟩ rfl rfl rfl rfl rfl (by kernel_rfl) Try.func7 (by kernel_rfl)
    (of_decide_eq_true (by kernel_rfl)) (by unfold Func.isWrapper; first | (rw [if_pos (by decide +kernel)]; kernel_rfl) | (rw [if_neg (by decide +kernel)]; exact ⟨rfl, rfl⟩))
    (fun os started H enc _ => lifted os started H enc)
end Go.Proofs.Ytingidljlfblnaa.exPartsJoin

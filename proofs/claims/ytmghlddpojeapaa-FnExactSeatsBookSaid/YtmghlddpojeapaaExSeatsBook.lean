/- Proves FnExactSeatsBook: for every input the program's SeatsBook returns what the reference's returns, leaves its arguments as they were and shares no memory; the law returns true. No condition. -/
import Derived.Test.YtmghlddpojeapaaRows
import Derived.Test.YtmghlddpojeapaaOpen
import Derived.Test.YtmghlddpojeapaaHpBooking
import Derived.Test.YtmghlddpojeapaaSt12
import Derived.Test.YtmghlddpojeapaaStep
import Derived.Deep.DeepCutAuto
import Derived.Deep.RegionHeld3
import Derived.Lib.SmallJoins
namespace Go.Proofs.Ytmghlddpojeapaa.exSeatsBook
open Go.ChangeShapes Go.WideShapes Go.ChangeAt Go.RowKit Go.Joins

theorem own : ownKnob Try.prog.godebug = none := by kernel_rfl
theorem laidOut : laidOutB Try.prog = true := by kernel_rfl

set_option maxRecDepth 100000 in
set_option maxHeartbeats 4000000 in
theorem walk (v0 : Int) (A1 : Option Addr) (p1 : List (Int × Int × Bool)) (n1 c1 : Nat) (v2a v2b : Int) (v2c : Bool) (w : World) (wf0 : -9223372036854775808 ≤ v0 ∧ v0 ≤ 9223372036854775807) (hl1 : p1.length = n1) (hm1 : n1 ≤ maxLen) (hr1 : Rd w A1 (flB p1)) :
    Calls Try.prog 11 #[.int .i64 v0, .slice A1 n1 c1, .agg #[.int .i64 v2a, .int .i64 v2b, .bool v2c]] w (Ret w (.bool true)) := by
  unfold maxLen at hm1
  by_cases hn1 : n1 ≤ 1048576
  rotate_left
  · go_enter Try.func11, Try.ntmps11
    go_wp2_with (go_at_call 15; refine (szBookingS_no _ _ _ _ _ (by omega) (by omega) (by omega)).mono ?_; rintro e w' ⟨rfl, rfl⟩)
    go_ret
    exact ⟨rfl, (Below.refl _ _).alloc (Nat.le_refl _) _⟩
  have hn1' : n1 ≤ 1048576 := by omega
  have Hl1 := hideIt hl1
  clear hl1
  go_enter Try.func11, Try.ntmps11
  have hbox : Below w.heap.size w (w.alloc (.cells #[.int .i64 v2a, .int .i64 v2b, .bool v2c] 47)) := (Below.refl w.heap.size w).alloc (Nat.le_refl _) _
  have bel0 : Below (w.alloc (.cells #[.int .i64 v2a, .int .i64 v2b, .bool v2c] 47)).heap.size (w.alloc (.cells #[.int .i64 v2a, .int .i64 v2b, .bool v2c] 47)) (w.alloc (.cells #[.int .i64 v2a, .int .i64 v2b, .bool v2c] 47)) := Below.refl _ _
  have HC := hideIt (book_cells w (.int .i64 v2a) (.int .i64 v2b) (.bool v2c) 47)
  have hq1 := hr1.below hbox (Nat.le_refl _)
  clear hr1
  have hr1 := hq1
  clear hq1
  go_wp2_with fail
  refine (szBookingS_yes _ _ _ _ _ (by omega) (by omega)).mono ?_
  rintro e w' ⟨rfl, rfl⟩
  have HK := hideIt (keep3 (HC.out _ bel0).1 (HC.out _ bel0).2.1 (HC.out _ bel0).2.2.1)
  have hrk := hr1.below bel0 (Nat.le_refl _)
  go_upto_region 5 with fail
  go_cut [8, 9] (fun a b wx => ∃ (A : Option Addr) (c : Nat), a = .slice A (seatsBook v0 p1 (v2a, v2b, v2c)).length c ∧ b = .bool (bookOk v0 p1 (v2a, v2b, v2c)) ∧ wx.ownsRow (w.alloc (.cells #[.int .i64 v2a, .int .i64 v2b, .bool v2c] 47)).heap.size 49 3 (.slice A (seatsBook v0 p1 (v2a, v2b, v2c)).length c) (seatsBook v0 p1 (v2a, v2b, v2c)).length (flB (seatsBook v0 p1 (v2a, v2b, v2c))) ∧ Below (w.alloc (.cells #[.int .i64 v2a, .int .i64 v2b, .bool v2c] 47)).heap.size (w.alloc (.cells #[.int .i64 v2a, .int .i64 v2b, .bool v2c] 47)) wx)
  case first =>
    go_region_held3 (fun w' => w'.cell? ⟨w.heap.size, 0, none⟩ = some (.int .i64 v2a) ∧ w'.cell? ⟨w.heap.size, 1, none⟩ = some (.int .i64 v2b) ∧ w'.cell? ⟨w.heap.size, 2, none⟩ = some (.bool v2c) ∧ Below (w.alloc (.cells #[.int .i64 v2a, .int .i64 v2b, .bool v2c] 47)).heap.size (w.alloc (.cells #[.int .i64 v2a, .int .i64 v2b, .bool v2c] 47)) w')
      (first | exact HK.out _ Bz | exact HK.out _ Bb | exact HK.out _ Ba | exact HK.out _ (Below.refl _ _).drew | (go_split_ands; exact HK.out _ (by assumption)))
      (first
        | (go_split_ands
           go_at_call 17
           refine (toBookingS_any _ _ _ _ _ Hl1.out hn1' (hrk.below (by assumption) (Nat.le_refl _))).mono ?_
           rintro e wa ⟨ga, ca, rfl, oa, hba⟩
           have Ba := below_from (by assumption) hba)
        | (go_split_ands
           go_at_call 41
           refine (toBooking_any _ _ _ _).mono ?_
           rintro e wb ⟨rfl, hbb⟩
           have Bb := below_from (by assumption) hbb)
        | (go_split_ands
           go_at_call 40
           refine (specSeatsBook_any _ _ _ _ _ _ _ _ _ Hl1.out hn1' (Rd.of_own (own_below oa hbb (Nat.le_refl _)))).mono ?_
           rintro e wz ⟨Az, cz, rfl, oz, hbz⟩
           have Bz := below_from (by assumption) hbz)
        | (go_split_ands
           go_at_call 40
           refine (specSeatsBook_any _ _ _ _ _ _ _ _ _ Hl1.out hn1' (Rd.of_own oa)).mono ?_
           rintro e wz ⟨Az, cz, rfl, oz, hbz⟩
           have Bz := below_from (by assumption) hbz))
    all_goals
      go_wp2_with fail
      go_meet
      exact ⟨_, _, rfl, rfl, own_base oz (Below.size (by assumption)), Bz⟩
  case' rest =>
    obtain ⟨Aw, cw, rfl, rfl, ow1, hb1⟩ := hcut
    obtain ⟨w1, hw1⟩ : ∃ x, x = wc := ⟨_, rfl⟩
    subst hw1
    clear HK hrk
  have bel1 := bel0.trans (hb1.mono bel0.size)
  go_wp2_with fail
  refine (toBookingS_any _ _ _ _ _ Hl1.out hn1' (hr1.below bel1 (Nat.le_refl _))).mono ?_
  rintro e w2 ⟨gx1, cx1, rfl, ox12, hb2⟩
  have bel2 := bel1.trans (hb2.mono bel1.size)
  have ow2 := own_below ow1 hb2 (Nat.le_refl _)
  obtain ⟨bx, by0, bz, _⟩ := HC.out _ bel2
  go_wp2_with fail
  refine (toBooking_any _ _ _ _).mono ?_
  rintro e w3 ⟨rfl, hb3⟩
  clear bx by0 bz
  have bel3 := bel2.trans (hb3.mono bel2.size)
  have ow3 := own_below ow2 hb3 (Nat.le_refl _)
  have ox13 := own_below ox12 hb3 (Nat.le_refl _)
  go_wp2_with fail
  refine (implSeatsBook_any _ _ _ _ _ _ _ _ _ Hl1.out hn1' (Rd.of_own ox13)).mono ?_
  rintro e w4 ⟨Ag, cg, rfl, og4, hb4⟩
  have bel4 := bel3.trans (hb4.mono bel3.size)
  have ow4 := own_below ow3 hb4 (Nat.le_refl _)
  have ox14 := own_below ox13 hb4 (Nat.le_refl _)
  go_wp2_with fail
  refine (eqBookingS_any _ _ _ _ _ _ _ _ _ rfl rfl (seatsBook_le v0 p1 (v2a, v2b, v2c)) (seatsBook_le v0 p1 (v2a, v2b, v2c)) (Rd.of_own og4) (Rd.of_own ow4)).mono ?_
  rintro e w5 ⟨rfl, hb5⟩
  have bel5 := bel4.trans (hb5.mono bel4.size)
  have ow5 := own_below ow4 hb5 (Nat.le_refl _)
  have ox15 := own_below ox14 hb5 (Nat.le_refl _)
  have og5 := own_below og4 hb5 (Nat.le_refl _)
  go_wp2_with fail
  refine (toBookingS_any _ _ _ _ _ Hl1.out hn1' (hr1.below bel5 (Nat.le_refl _))).mono ?_
  rintro e w6 ⟨gy1, cy1, rfl, oy16, hb6⟩
  have bel6 := bel5.trans (hb6.mono bel5.size)
  have ow6 := own_below ow5 hb6 (Nat.le_refl _)
  have ox16 := own_below ox15 hb6 (Nat.le_refl _)
  have og6 := own_below og5 hb6 (Nat.le_refl _)
  go_wp2_with fail
  refine (eqBookingS_any _ _ _ _ _ _ _ _ _ Hl1.out Hl1.out hn1' hn1' (Rd.of_own ox16) (Rd.of_own oy16)).mono ?_
  rintro e w7 ⟨rfl, hb7⟩
  have bel7 := bel6.trans (hb7.mono bel6.size)
  have ow7 := own_below ow6 hb7 (Nat.le_refl _)
  have ox17 := own_below ox16 hb7 (Nat.le_refl _)
  have og7 := own_below og6 hb7 (Nat.le_refl _)
  have oy17 := own_below oy16 hb7 (Nat.le_refl _)
  have z1_3 : w1.heap.size ≤ w3.heap.size := Nat.le_trans (hb2.size) hb3.size
  have z2_3 : w2.heap.size ≤ w3.heap.size := hb3.size
  go_wp2_with fail
  refine (markBookingS_any _ _ _ _ _ _ _ Hl1.out hn1' (by omega) (by omega) ox17).mono ?_
  rintro e w8 ⟨rfl, ox18, hg8⟩
  have bel8 := bel7.grown hg8 bel7.size (fun j hj => Nat.le_trans bel1.size (ox17.lt j hj).1)
  have ow8 := ow7.kept hg8 (own_apart_l (B := w1.heap.size) (fun j hj => (ow1.lt j hj).2) (fun j hj => (ox17.lt j hj).1))
  have og8 := og7.kept hg8 (own_apart_r (B := w2.heap.size) (fun j hj => (ox12.lt j hj).2) (fun j hj => Nat.le_trans z2_3 (og7.lt j hj).1))
  go_wp2_with fail
  refine (eqBookingS_any _ _ _ _ _ _ _ _ _ rfl rfl (seatsBook_le v0 p1 (v2a, v2b, v2c)) (seatsBook_le v0 p1 (v2a, v2b, v2c)) (Rd.of_own og8) (Rd.of_own ow8)).mono ?_
  rintro e w9 ⟨rfl, hb9⟩
  have bel9 := bel8.trans (hb9.mono bel8.size)
  have ow9 := own_below ow8 hb9 (Nat.le_refl _)
  have og9 := own_below og8 hb9 (Nat.le_refl _)
  go_wp2_with fail
  refine (markBookingS_any _ _ _ _ _ _ _ rfl (seatsBook_le v0 p1 (v2a, v2b, v2c)) (by omega) (by omega) og9).mono ?_
  rintro e w10 ⟨rfl, og10, hg10⟩
  have bel10 := bel9.grown hg10 bel9.size (fun j hj => Nat.le_trans bel3.size (og9.lt j hj).1)
  have ow10 := ow9.kept hg10 (own_apart_l (B := w1.heap.size) (fun j hj => (ow1.lt j hj).2) (fun j hj => Nat.le_trans z1_3 (og9.lt j hj).1))
  go_wp2_with fail
  refine (heldBookingS_any _ _ _ _ _ (seatsBook_le v0 p1 (v2a, v2b, v2c)) (by omega) (by omega) (Rd.of_own og10)).mono ?_
  rintro e w' ⟨rfl, rfl⟩
  have HK := hideIt (keep3 (HC.out _ bel10).1 (HC.out _ bel10).2.1 (HC.out _ bel10).2.2.1)
  have hrk := hr1.below bel10 (Nat.le_refl _)
  go_upto_region 24 with fail
  go_cut [16, 17] (fun a b wx => ∃ (A : Option Addr) (c : Nat), a = .slice A (seatsBook v0 p1 (v2a, v2b, v2c)).length c ∧ b = .bool (bookOk v0 p1 (v2a, v2b, v2c)) ∧ wx.ownsRow w10.heap.size 49 3 (.slice A (seatsBook v0 p1 (v2a, v2b, v2c)).length c) (seatsBook v0 p1 (v2a, v2b, v2c)).length (flB (seatsBook v0 p1 (v2a, v2b, v2c))) ∧ Below w10.heap.size w10 wx)
  case first =>
    go_region_held3 (fun w' => w'.cell? ⟨w.heap.size, 0, none⟩ = some (.int .i64 v2a) ∧ w'.cell? ⟨w.heap.size, 1, none⟩ = some (.int .i64 v2b) ∧ w'.cell? ⟨w.heap.size, 2, none⟩ = some (.bool v2c) ∧ Below w10.heap.size w10 w')
      (first | exact HK.out _ Bz | exact HK.out _ Bb | exact HK.out _ Ba | exact HK.out _ (Below.refl _ _).drew | (go_split_ands; exact HK.out _ (by assumption)))
      (first
        | (go_split_ands
           go_at_call 17
           refine (toBookingS_any _ _ _ _ _ Hl1.out hn1' (hrk.below (by assumption) (Nat.le_refl _))).mono ?_
           rintro e wa ⟨ga, ca, rfl, oa, hba⟩
           have Ba := below_from (by assumption) hba)
        | (go_split_ands
           go_at_call 41
           refine (toBooking_any _ _ _ _).mono ?_
           rintro e wb ⟨rfl, hbb⟩
           have Bb := below_from (by assumption) hbb)
        | (go_split_ands
           go_at_call 42
           refine (implSeatsBook_any _ _ _ _ _ _ _ _ _ Hl1.out hn1' (Rd.of_own (own_below oa hbb (Nat.le_refl _)))).mono ?_
           rintro e wz ⟨Az, cz, rfl, oz, hbz⟩
           have Bz := below_from (by assumption) hbz)
        | (go_split_ands
           go_at_call 42
           refine (implSeatsBook_any _ _ _ _ _ _ _ _ _ Hl1.out hn1' (Rd.of_own oa)).mono ?_
           rintro e wz ⟨Az, cz, rfl, oz, hbz⟩
           have Bz := below_from (by assumption) hbz))
    all_goals
      go_wp2_with fail
      go_meet
      exact ⟨_, _, rfl, rfl, own_base oz (Below.size (by assumption)), Bz⟩
  case' rest =>
    obtain ⟨Ah, ch, rfl, rfl, oh11, hb11⟩ := hcut
    obtain ⟨w11, hw11⟩ : ∃ x, x = wc := ⟨_, rfl⟩
    subst hw11
    clear HK hrk
  have bel11 := bel10.trans (hb11.mono bel10.size)
  have ow11 := own_below ow10 hb11 (Nat.le_refl _)
  have og11 := own_below og10 hb11 (Nat.le_refl _)
  go_wp2_with fail
  refine (eqBookingS_any _ _ _ _ _ _ _ _ _ rfl rfl (seatsBook_le v0 p1 (v2a, v2b, v2c)) (seatsBook_le v0 p1 (v2a, v2b, v2c)) (Rd.of_own oh11) (Rd.of_own ow11)).mono ?_
  rintro e w12 ⟨rfl, hb12⟩
  have bel12 := bel11.trans (hb12.mono bel11.size)
  have ow12 := own_below ow11 hb12 (Nat.le_refl _)
  have og12 := own_below og11 hb12 (Nat.le_refl _)
  have oh12 := own_below oh11 hb12 (Nat.le_refl _)
  go_wp2_with fail
  refine (heldBookingS_any _ _ _ _ _ (seatsBook_le v0 p1 (v2a, v2b, v2c)) (by omega) (by omega) (Rd.of_own og12)).mono ?_
  rintro e w' ⟨rfl, rfl⟩
  go_wp2
  go_ret
  exact ⟨rfl, below_from hbox bel12⟩

set_option maxRecDepth 100000 in
theorem lifted (os : Os) (started : os.Started) (H : Type) (enc : TypeId × Value → H) :
    ReturnsInHanded {} Try.checked os 11 .any (Rows.fnExactSeatsBookSpec.pre6 enc Try.prog Try.f11 Rows.fnExactSeatsBookRow.domain false) (Rows.fnExactSeatsBookSpec.post enc Try.prog Try.f11 false true false false) := by
  refine returnsInHanded_of_change (C := Try.checked) own started (by kernel_rfl) Try.func11
    (ChangeSpec.witness6 (enc := enc) (C := Try.checked) false ⟨#[], #[.int .i64 0, .slice none 0 0, .agg #[.int .i64 0, .int .i64 0, .bool false]], []⟩ 8 (by kernel_rfl) (by kernel_rfl) (by kernel_rfl) (by kernel_rfl)) ?_
  intro W base args ds gs before hval0 hW hcnd _
  have hval : ∀ (j : Nat) t v, Try.f11.params[j]? = some t → args[j]? = some v → Value.okWide Try.prog W .any base t v := hval0
  have hW' := hW
  obtain ⟨p, q, hA0, hV, rfl, hfz, hnd⟩ := hW
  have hA : DataW.TrodAll enc Try.prog W 0 (fun _ => true) true Try.f11.params.toList args.toList ds p := hA0
  rw [Try.params11] at hA hval
  obtain ⟨v0, vs0, d0, ds0, p0, q0, hargs, rfl, rfl, h0, r0⟩ := trodAll_cons hA
  obtain ⟨v1, vs1, d1, ds1, p1, q1, rfl, rfl, rfl, h1, r1⟩ := trodAll_cons r0
  obtain ⟨v2, vs2, d2, ds2, p2, q2, rfl, rfl, rfl, h2, r2⟩ := trodAll_cons r1
  obtain ⟨rfl, rfl, rfl⟩ := trodAll_nil r2
  obtain rfl : args = #[v0, v1, v2] := by cases args; simp_all
  obtain ⟨rfl, rfl⟩ := trodVars_none hV
  have lt0 : ∀ x ∈ p0, x.block < W.heap.size := by obtain ⟨m, hm⟩ := h0; exact DataW.trod_lt m _ _ _ hm
  have k0 := h0
  obtain ⟨x0, rfl, rfl, rfl, wx0⟩ := open_int Try.underlying3 (hval 0 3 v0 rfl rfl) h0
  have wy0 : -9223372036854775808 ≤ x0 ∧ x0 ≤ 9223372036854775807 := by simpa [Lit.wf, IntKind.min, IntKind.max, IntKind.signed, IntKind.bits] using wx0
  have lt1 : ∀ x ∈ p1, x.block < W.heap.size := by obtain ⟨m, hm⟩ := h1; exact DataW.trod_lt m _ _ _ hm
  have k1 := h1
  obtain ⟨a1, len1, cap1, rfl⟩ := okWide_slice Try.underlying22 (hval 1 22 v1 rfl rfl)
  obtain ⟨z1, l1, w1, m1⟩ : ∃ xs : List (Int × Int × Bool), xs.length = len1 ∧ Rd W a1 (flB xs) ∧ len1 ≤ maxLen := by
    obtain ⟨fuel, hf⟩ := h1
    exact open_recs (s := 3) encB encB_len (by omega) Try.underlying22 (by kernel_rfl) (cellsB Try.underlying47 (by kernel_rfl) (by kernel_rfl) Try.underlying3 Try.underlying3 Try.underlying4) (by simpa [Value.cells] using hf)
  have lt2 : ∀ x ∈ p2, x.block < W.heap.size := by obtain ⟨m, hm⟩ := h2; exact DataW.trod_lt m _ _ _ hm
  have k2 := h2
  obtain ⟨c2a, c2b, c2c, y2a, y2b, y2c, mm2, rfl, _, _, ta2, tb2, tc2⟩ := open_agg3 Try.underlying47 (by kernel_rfl) (by kernel_rfl) (hval 2 47 v2 rfl rfl) h2
  obtain ⟨x2a, ea2, _, wa2⟩ := DataW.trod_int Try.underlying3 ta2
  obtain ⟨x2b, eb2, _, wb2⟩ := DataW.trod_int Try.underlying3 tb2
  obtain ⟨x2c, ec2, _⟩ := DataW.trod_bool Try.underlying4 tc2
  simp only [List.cons.injEq, and_true] at ea2 eb2 ec2
  subst ea2 eb2 ec2
  clear hA0 hval0
  refine (walk x0 a1 z1 len1 cap1 x2a x2b x2c W wy0 l1 m1 w1).mono fun e W' ⟨he, bel⟩ => ?_
  subst he
  exact ⟨_, rfl, _, _, _, [], _, [], hW', trodAll_mk1 (shut_bool Try.underlying4 _), (trodAll_cons_mk (Below.trod laidOut (by kernel_rfl) (of_decide_eq_true (by kernel_rfl)) k0 bel lt0) (trodAll_cons_mk (Below.trod laidOut (by kernel_rfl) (of_decide_eq_true (by kernel_rfl)) k1 bel lt1) (trodAll_cons_mk (Below.trod laidOut (by kernel_rfl) (of_decide_eq_true (by kernel_rfl)) k2 bel lt2) trodAll_mk0))), rfl, bel.frame _, fun h => by cases h⟩

theorem proved : Rows.FnExactSeatsBookSaid :=
  OpenClaim.holds_of_wide 11 Try.f11 rfl rfl rfl rfl rfl rfl rfl ⟨rfl, rfl, rfl, rfl, rfl⟩ rfl rfl rfl rfl rfl (by kernel_rfl) Try.func11 (by kernel_rfl)
    (of_decide_eq_true (by kernel_rfl)) (by unfold Func.isWrapper; first | (rw [if_pos (by decide +kernel)]; kernel_rfl) | (rw [if_neg (by decide +kernel)]; exact ⟨rfl, rfl⟩))
    (fun os started H enc _ => lifted os started H enc)
end Go.Proofs.Ytmghlddpojeapaa.exSeatsBook

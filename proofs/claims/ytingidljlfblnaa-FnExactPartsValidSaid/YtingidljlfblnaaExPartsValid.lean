/- Proves FnExactPartsValid: for every input the program's PartsValid and the reference's return the same, and the law returns true. No condition. -/
import Derived.Test.YtingidljlfblnaaRows
import Derived.Test.YtingidljlfblnaaPa2
import Derived.Test.YtingidljlfblnaaPa3
import Derived.Test.YtingidljlfblnaaOpen
namespace Go.Proofs.Ytingidljlfblnaa.exPartsValid
open Go.ChangeShapes Go.WideShapes Go.ChangeAt Go.RowKit

theorem own : ownKnob Try.prog.godebug = none := by kernel_rfl
theorem laidOut : laidOutB Try.prog = true := by kernel_rfl

set_option maxHeartbeats 1000000 in
theorem walk (A : Option Addr) (ps : List (Int × Int)) (n cap : Nat) (w : World) (hl : ps.length = n) (hm : n ≤ maxLen) (hr : Rd w A (fl2 ps)) :
    Calls Try.prog 3 #[.slice A n cap] w (Ret w (.bool true)) := by
  subst hl
  unfold maxLen at hm
  by_cases hn : ps.length ≤ 1048576
  · obtain ⟨r, hv⟩ : ∃ r, partsValid ps = r := ⟨_, rfl⟩
    have Hv := hideIt hv
    clear hv
    go_enter Try.func3, Try.ntmps3
    go_wp2_with (go_at_call 15; refine (szPartS_yes _ _ _ _ _ (by omega) (by omega)).mono ?_; rintro e w' ⟨rfl, rfl⟩)
    refine (toPartS_any _ _ _ _ hn hr).mono ?_
    rintro e w1 ⟨A1, c1, rfl, ho1, hb1⟩
    go_wp2_with fail
    refine (specPartsValid_any _ _ _ _ _ _ rfl hn (Rd.of_own ho1) Hv.out).mono ?_
    rintro e w' ⟨rfl, rfl⟩
    go_wp2_with fail
    refine (toPartS_any _ _ _ _ hn (hr.below hb1 (Nat.le_refl _))).mono ?_
    rintro e w2 ⟨A2, c2, rfl, ho2, hb2⟩
    go_wp2_with fail
    refine (implPartsValid_any _ _ _ _ _ _ rfl hn (Rd.of_own ho2) Hv.out).mono ?_
    rintro e w3 ⟨rfl, hb3⟩
    have bel3 := (hb1.trans (hb2.mono hb1.size)).trans (hb3.mono (Nat.le_trans hb1.size hb2.size))
    go_wp2_with fail
    refine (toPartS_any _ _ _ _ hn (hr.below bel3 (Nat.le_refl _))).mono ?_
    rintro e w4 ⟨A4, c4, rfl, ho4, hb4⟩
    go_wp2_with fail
    refine (eqPartS_any _ _ _ _ _ _ _ hn hn (((Rd.of_own ho2).below hb3 (Nat.le_refl _)).below hb4 (Nat.le_refl _)) (Rd.of_own ho4)).mono ?_
    rintro e w5 ⟨rfl, hb5⟩
    have bel5 := (bel3.trans (hb4.mono bel3.size)).trans (hb5.mono (Nat.le_trans bel3.size hb4.size))
    go_wp2
    go_ret
    exact ⟨rfl, bel5⟩
  · go_enter Try.func3, Try.ntmps3
    go_wp2_with (go_at_call 15; refine (szPartS_no _ _ _ _ _ (by omega) (by omega) (by omega)).mono ?_; rintro e w' ⟨rfl, rfl⟩)
    go_ret
    exact ⟨rfl, Below.refl _ _⟩

set_option maxRecDepth 100000 in
theorem lifted (os : Os) (started : os.Started) (H : Type) (enc : TypeId × Value → H) :
    ReturnsInHanded {} Try.checked os 3 .any (Rows.fnExactPartsValidSpec.pre6 enc Try.prog Try.f3 Rows.fnExactPartsValidRow.domain false) (Rows.fnExactPartsValidSpec.post enc Try.prog Try.f3 false true false false) := by
  refine returnsInHanded_of_change (C := Try.checked) own started (by kernel_rfl) Try.func3
    (ChangeSpec.witness6 (enc := enc) (C := Try.checked) false ⟨#[], #[.slice none 0 0], []⟩ 8 (by kernel_rfl) (by kernel_rfl) (by kernel_rfl) (by kernel_rfl)) ?_
  intro W base args ds gs before hval0 hW hcnd _
  have hval : ∀ (j : Nat) t v, Try.f3.params[j]? = some t → args[j]? = some v → Value.okWide Try.prog W .any base t v := hval0
  have hW' := hW
  obtain ⟨p, q, hA0, hV, rfl, hfz, hnd⟩ := hW
  have hA : DataW.TrodAll enc Try.prog W 0 (fun _ => true) true Try.f3.params.toList args.toList ds p := hA0
  rw [Try.params3] at hA hval
  obtain ⟨v0, vs0, d0, ds0, p0, q0, hargs, rfl, rfl, h0, r0⟩ := trodAll_cons hA
  obtain ⟨rfl, rfl, rfl⟩ := trodAll_nil r0
  obtain rfl : args = #[v0] := by cases args; simp_all
  obtain ⟨rfl, rfl⟩ := trodVars_none hV
  have lt0 : ∀ x ∈ p0, x.block < W.heap.size := by obtain ⟨m, hm⟩ := h0; exact DataW.trod_lt m _ _ _ hm
  obtain ⟨a0, len0, cap0, rfl⟩ := okWide_slice Try.underlying22 (hval 0 22 v0 rfl rfl)
  obtain ⟨z0, l0, w0, m0⟩ : ∃ xs : List (Int × Int), xs.length = len0 ∧ Rd W a0 (fl2 xs) ∧ len0 ≤ maxLen := by
    obtain ⟨fuel, hf⟩ := h0
    exact open_recs (s := 2) enc2 enc2_len (by omega) Try.underlying22 (by kernel_rfl) (cells2 Try.underlying57 (by kernel_rfl) (by kernel_rfl) Try.underlying3 Try.underlying3) (by simpa [Value.cells] using hf)
  clear hA0 hval0
  refine (walk a0 z0 len0 cap0 W l0 m0 w0).mono fun e W' ⟨he, bel⟩ => ?_
  subst he
  exact ⟨_, rfl, _, _, _, [], _, [], hW', trodAll_mk1 (shut_bool Try.underlying4 _), (trodAll_cons_mk (Below.trod laidOut (by kernel_rfl) (of_decide_eq_true (by kernel_rfl)) h0 bel lt0) trodAll_mk0), rfl, bel.frame _, fun h => by cases h⟩

theorem proved : Rows.FnExactPartsValidSaid :=
  OpenClaim.holds_of_wide 3 Try.f3 rfl rfl rfl rfl rfl rfl rfl ⟨rfl, rfl, rfl, rfl, rfl⟩ rfl rfl rfl rfl rfl (by kernel_rfl) Try.func3 (by kernel_rfl)
    (of_decide_eq_true (by kernel_rfl)) (by unfold Func.isWrapper; first | (rw [if_pos (by decide +kernel)]; kernel_rfl) | (rw [if_neg (by decide +kernel)]; exact ⟨rfl, rfl⟩))
    (fun os started H enc _ => lifted os started H enc)
end Go.Proofs.Ytingidljlfblnaa.exPartsValid

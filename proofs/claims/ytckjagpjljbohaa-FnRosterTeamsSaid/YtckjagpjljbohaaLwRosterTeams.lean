/- Proves FnRosterTeams: the law returns true for every input. No condition. -/
import Derived.Test.YtckjagpjljbohaaRows
import Derived.Test.YtckjagpjljbohaaOpenU
import Derived.Test.YtckjagpjljbohaaWkRosterTeams
namespace Go.Proofs.Ytckjagpjljbohaa.fnRosterTeams
open Go.ChangeShapes Go.WideShapes Go.ChangeAt Go.RowKit

theorem own : ownKnob Try.prog.godebug = none := by kernel_rfl
theorem laidOut : laidOutB Try.prog = true := by kernel_rfl

set_option maxRecDepth 100000 in
theorem lifted (os : Os) (started : os.Started) (H : Type) (enc : TypeId × Value → H) :
    ReturnsInHanded {} Try.checked os 3 .any (Rows.fnRosterTeamsSpec.pre6 enc Try.prog Try.f3 Rows.fnRosterTeamsRow.domain false) (Rows.fnRosterTeamsSpec.post enc Try.prog Try.f3 false true false false) := by
  refine returnsInHanded_of_change (C := Try.checked) own started (by kernel_rfl) Try.func3
    (ChangeSpec.witness6 (enc := enc) (C := Try.checked) false ⟨#[], #[.slice none 0 0, .slice none 0 0], []⟩ 8 (by kernel_rfl) (by kernel_rfl) (by kernel_rfl) (by kernel_rfl)) ?_
  intro W base args ds gs before hval0 hW hcnd _
  have hval : ∀ (j : Nat) t v, Try.f3.params[j]? = some t → args[j]? = some v → Value.okWide Try.prog W .any base t v := hval0
  have hW' := hW
  obtain ⟨p, q, hA0, hV, rfl, hfz, hnd⟩ := hW
  have hA : DataW.TrodAll enc Try.prog W 0 (fun _ => true) true Try.f3.params.toList args.toList ds p := hA0
  rw [Try.params3] at hA hval
  obtain ⟨v0, vs0, d0, ds0, p0, q0, hargs, rfl, rfl, h0, r0⟩ := trodAll_cons hA
  obtain ⟨v1, vs1, d1, ds1, p1, q1, rfl, rfl, rfl, h1, r1⟩ := trodAll_cons r0
  obtain ⟨rfl, rfl, rfl⟩ := trodAll_nil r1
  obtain rfl : args = #[v0, v1] := by cases args; simp_all
  obtain ⟨rfl, rfl⟩ := trodVars_none hV
  have lt0 : ∀ x ∈ p0, x.block < W.heap.size := by obtain ⟨m, hm⟩ := h0; exact DataW.trod_lt m _ _ _ hm
  have k0 := h0
  obtain ⟨a0, len0, cap0, rfl, cc0⟩ := okWide_slice_cap Try.underlying22 (hval 0 22 v0 rfl rfl)
  obtain ⟨z0, l0, w0, m0, y0⟩ : ∃ xs : List Int, xs.length = len0 ∧ Rd W a0 (flU xs) ∧ len0 ≤ maxLen ∧ Bytes xs := by
    obtain ⟨fuel, hf⟩ := h0
    exact open_bytes Try.underlying22 (by kernel_rfl) (cellsU Try.underlying5) (by simpa [Value.cells] using hf)
  have lt1 : ∀ x ∈ p1, x.block < W.heap.size := by obtain ⟨m, hm⟩ := h1; exact DataW.trod_lt m _ _ _ hm
  have k1 := h1
  obtain ⟨a1, len1, cap1, rfl, cc1⟩ := okWide_slice_cap Try.underlying22 (hval 1 22 v1 rfl rfl)
  obtain ⟨z1, l1, w1, m1, y1⟩ : ∃ xs : List Int, xs.length = len1 ∧ Rd W a1 (flU xs) ∧ len1 ≤ maxLen ∧ Bytes xs := by
    obtain ⟨fuel, hf⟩ := h1
    exact open_bytes Try.underlying22 (by kernel_rfl) (cellsU Try.underlying5) (by simpa [Value.cells] using hf)
  clear hA0 hval0
  refine (walk a0 z0 len0 cap0 a1 z1 len1 cap1 W l0 m0 cc0 y0 w0 l1 m1 cc1 y1 w1).mono fun e W' ⟨he, bel⟩ => ?_
  subst he
  exact ⟨_, rfl, _, _, _, [], _, [], hW', trodAll_mk1 (shut_bool Try.underlying4 _), (trodAll_cons_mk (Below.trod laidOut (by kernel_rfl) (of_decide_eq_true (by kernel_rfl)) k0 bel lt0) (trodAll_cons_mk (Below.trod laidOut (by kernel_rfl) (of_decide_eq_true (by kernel_rfl)) k1 bel lt1) trodAll_mk0)), rfl, bel.frame _, fun h => by cases h⟩

theorem proved : Rows.FnRosterTeamsSaid :=
  OpenClaim.holds_of_wide 3 Try.f3 rfl rfl rfl rfl rfl rfl rfl ⟨rfl, rfl, rfl, rfl, rfl⟩ rfl rfl rfl rfl rfl (by kernel_rfl) Try.func3 (by kernel_rfl)
    (of_decide_eq_true (by kernel_rfl)) (by unfold Func.isWrapper; first | (rw [if_pos (by decide +kernel)]; kernel_rfl) | (rw [if_neg (by decide +kernel)]; exact ⟨rfl, rfl⟩))
    (fun os started H enc _ => lifted os started H enc)
end Go.Proofs.Ytckjagpjljbohaa.fnRosterTeams

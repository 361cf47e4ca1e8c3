/- What comes in: a slice of records read as data is a slice that reads as a list of cells. -/
import Derived.Test.YtckjagpjljbohaaBase
import Derived.ProofKit
import Derived.OpenShut
import Derived.ChangeOld
import Derived.Deep.Slices
import Derived.Deep.Fields
import Derived.ChangeSame
namespace Go.Proofs.Ytckjagpjljbohaa
open Go.ChangeShapes Go.WideShapes Go.ChangeAt Go.RowKit Go.Deep

theorem open_recs {H : Type} {enc : TypeId × Value → H} {P : Program} {w : World} {base : Nat} {spare : Nat → Bool} {held : Bool} {t e : TypeId} {s fuel : Nat} {A : Option Addr} {len cap : Nat} {x : DataW H × List MemPlace}
    {α : Type} [Inhabited α] (en : α → List Value) (hs : ∀ a, (en a).length = s) (hpos : 0 < s) (ht : P.underlying t = some (.slice e)) (hC : P.cellsOf e = s)
    (hcs : ∀ n cs' y, DataW.trod enc P w base spare held n e cs' = some y → ∃ a, cs' = en a)
    (h : DataW.trod enc P w base spare held fuel t [.slice A len cap] = some x) : ∃ xs : List α, xs.length = len ∧ Rd w A (xs.flatMap en) ∧ len ≤ maxLen := by
  rcases open_slice ht h with ⟨hc, _⟩ | ⟨a, l, c, m, n, D, Pl, hc, hb, hl, hm, hmm, _, hi⟩
  · simp at hc
    obtain ⟨rfl, rfl, rfl⟩ := hc
    exact ⟨[], rfl, Rd.nil _ _, by simp⟩
  · simp at hc
    obtain ⟨rfl, rfl, rfl⟩ := hc
    have hlm : len ≤ m := by rw [hmm]; split <;> omega
    have hex : ∀ i, i < len → ∃ y, w.cells? base (a.add (i * s)) s = some (en y) := fun i hlt => by
      obtain ⟨cs', h1, h2⟩ := hi i (by omega)
      obtain ⟨y, rfl⟩ := hcs _ _ _ h2
      rw [hC] at h1
      exact ⟨y, h1⟩
    classical
    let f : Nat → α := fun i => if h : i < len then Classical.choose (hex i h) else default
    have hf : ∀ i, i < len → w.cells? base (a.add (i * s)) s = some (en (f i)) := fun i hlt => by
      show w.cells? base (a.add (i * s)) s = some (en (if h : i < len then Classical.choose (hex i h) else default))
      rw [dif_pos hlt]
      exact Classical.choose_spec (hex i hlt)
    have hcell : ∀ i j, i < len → j < s → w.cell? (a.add (i * s + j)) = (en (f i))[j]? := fun i j hlt hj => by
      have := (World.cells?_some (hf i hlt)).2.2 j hj
      rw [add_add] at this
      exact this
    refine ⟨(List.range len).map f, by simp, fun hne => ?_, by omega⟩
    have hlen : 0 < len := by
      rcases Nat.eq_zero_or_pos len with h0 | h0
      · subst h0
        exact absurd rfl hne
      · exact h0
    have h00 := hcell 0 0 hlen hpos
    have hsp : a.spot = none := by
      have hj : (en (f 0))[0]? = some ((en (f 0))[0]'(by rw [hs]; exact hpos)) := List.getElem?_eq_getElem (by rw [hs]; exact hpos)
      rw [hj] at h00
      have := World.cell?_spot h00
      simpa [Addr.add] using this
    obtain ⟨b, off, spot⟩ := a
    simp only at hsp
    subst hsp
    have hadd : ∀ i, (⟨b, off, none⟩ : Addr).add i = ⟨b, off + i, none⟩ := fun i => by unfold Addr.add; split <;> simp_all
    refine ⟨b, off, rfl, ?_, fun i u hu => ?_⟩
    · have hj : (en (f 0))[0]? = some ((en (f 0))[0]'(by rw [hs]; exact hpos)) := List.getElem?_eq_getElem (by rw [hs]; exact hpos)
      rw [hj] at h00
      have := World.block_lt_of_cell? w _ h00
      rw [hadd] at this
      exact this
    · have hil : i < ((List.range len).map f).length * s := by
        rw [← flat_length en s hs]
        exact (List.getElem?_eq_some_iff.1 hu).1
      simp only [List.length_map, List.length_range] at hil
      have hk : i / s < len := Nat.div_lt_of_lt_mul (by rw [Nat.mul_comm]; exact hil)
      have hr : i % s < s := Nat.mod_lt _ hpos
      have h1 := flat_get en s hs ((List.range len).map f) (i / s) (i % s) (f (i / s)) (by simp [hk]) hr
      have e1 : i / s * s + i % s = i := by rw [Nat.mul_comm]; exact Nat.div_add_mod i s
      rw [e1] at h1
      have h2 := hcell (i / s) (i % s) hk hr
      rw [e1, hadd] at h2
      rw [h2, ← h1, hu]

section
variable {H : Type} {enc : TypeId × Value → H} {P : Program} {w : World} {base : Nat} {spare : Nat → Bool} {held : Bool} {e : TypeId}
theorem cells2 {f0 f1 : Field} (he : P.underlying e = some (.struct #[f0, f1])) (hone : oneCellFields P #[f0, f1] = true) (hC : P.cellsOf e = 2)
    (h0 : P.underlying f0.type = some (.int .i64)) (h1 : P.underlying f1.type = some (.int .i64)) : ∀ n cs' y, DataW.trod enc P w base spare held n e cs' = some y → ∃ a, cs' = enc2 a := by
  intro n cs' y h
  obtain ⟨ys, m, _, _, hl, _, hf⟩ := DataW.trod_struct he h
  rw [hC] at hl
  match cs', hl with
  | [c0, c1], _ =>
    have g0 := hf 0 f0 rfl
    have g1 := hf 1 f1 rfl
    rw [(hone_of hone 0 f0 rfl).1, (hone_of hone 0 f0 rfl).2] at g0
    rw [(hone_of hone 1 f1 rfl).1, (hone_of hone 1 f1 rfl).2] at g1
    simp only [List.drop_zero, List.take_succ_cons, List.take_zero, List.drop_succ_cons] at g0 g1
    cases hy0 : ys[0]? with
    | none => simp_all
    | some y0 =>
      cases hy1 : ys[1]? with
      | none => simp_all
      | some y1 =>
        rw [hy0] at g0
        rw [hy1] at g1
        obtain ⟨n0, e0, _⟩ := DataW.trod_int h0 g0
        obtain ⟨n1, e1, _⟩ := DataW.trod_int h1 g1
        simp at e0 e1
        exact ⟨(n0, n1), by rw [e0, e1]; rfl⟩
theorem cells3of {f0 f1 f2 : Field} (he : P.underlying e = some (.struct #[f0, f1, f2])) (hone : oneCellFields P #[f0, f1, f2] = true) (hC : P.cellsOf e = 3) {n : Nat} {cs' : List Value} {y : DataW H × List MemPlace}
    (h : DataW.trod enc P w base spare held n e cs' = some y) : ∃ c0 c1 c2 m y0 y1 y2, cs' = [c0, c1, c2] ∧ DataW.trod enc P w base spare held m f0.type [c0] = some y0 ∧ DataW.trod enc P w base spare held m f1.type [c1] = some y1 ∧ DataW.trod enc P w base spare held m f2.type [c2] = some y2 := by
  obtain ⟨ys, m, _, _, hl, _, hf⟩ := DataW.trod_struct he h
  rw [hC] at hl
  match cs', hl with
  | [c0, c1, c2], _ =>
    have g0 := hf 0 f0 rfl
    have g1 := hf 1 f1 rfl
    have g2 := hf 2 f2 rfl
    rw [(hone_of hone 0 f0 rfl).1, (hone_of hone 0 f0 rfl).2] at g0
    rw [(hone_of hone 1 f1 rfl).1, (hone_of hone 1 f1 rfl).2] at g1
    rw [(hone_of hone 2 f2 rfl).1, (hone_of hone 2 f2 rfl).2] at g2
    simp only [List.drop_zero, List.take_succ_cons, List.take_zero, List.drop_succ_cons] at g0 g1 g2
    cases hy0 : ys[0]? with
    | none => simp_all
    | some y0 =>
      cases hy1 : ys[1]? with
      | none => simp_all
      | some y1 =>
        cases hy2 : ys[2]? with
        | none => simp_all
        | some y2 =>
          rw [hy0] at g0
          rw [hy1] at g1
          rw [hy2] at g2
          exact ⟨c0, c1, c2, _, y0, y1, y2, rfl, g0, g1, g2⟩
theorem cells3 {f0 f1 f2 : Field} (he : P.underlying e = some (.struct #[f0, f1, f2])) (hone : oneCellFields P #[f0, f1, f2] = true) (hC : P.cellsOf e = 3)
    (h0 : P.underlying f0.type = some (.int .i64)) (h1 : P.underlying f1.type = some (.int .i64)) (h2 : P.underlying f2.type = some (.int .i64)) : ∀ n cs' y, DataW.trod enc P w base spare held n e cs' = some y → ∃ a, cs' = enc3 a := by
  intro n cs' y h
  obtain ⟨c0, c1, c2, m, y0, y1, y2, rfl, g0, g1, g2⟩ := cells3of he hone hC h
  obtain ⟨n0, e0, _⟩ := DataW.trod_int h0 g0
  obtain ⟨n1, e1, _⟩ := DataW.trod_int h1 g1
  obtain ⟨n2, e2, _⟩ := DataW.trod_int h2 g2
  simp at e0 e1 e2
  exact ⟨(n0, n1, n2), by rw [e0, e1, e2]; rfl⟩
theorem cellsB {f0 f1 f2 : Field} (he : P.underlying e = some (.struct #[f0, f1, f2])) (hone : oneCellFields P #[f0, f1, f2] = true) (hC : P.cellsOf e = 3)
    (h0 : P.underlying f0.type = some (.int .i64)) (h1 : P.underlying f1.type = some (.int .i64)) (h2 : P.underlying f2.type = some .bool) : ∀ n cs' y, DataW.trod enc P w base spare held n e cs' = some y → ∃ a, cs' = encB a := by
  intro n cs' y h
  obtain ⟨c0, c1, c2, m, y0, y1, y2, rfl, g0, g1, g2⟩ := cells3of he hone hC h
  obtain ⟨n0, e0, _⟩ := DataW.trod_int h0 g0
  obtain ⟨n1, e1, _⟩ := DataW.trod_int h1 g1
  obtain ⟨n2, e2, _⟩ := DataW.trod_bool h2 g2
  simp at e0 e1 e2
  exact ⟨(n0, n1, n2), by rw [e0, e1, e2]; rfl⟩
theorem cells1 (he : P.underlying e = some (.int .i64)) : ∀ n cs' y, DataW.trod enc P w base spare held n e cs' = some y → ∃ a, cs' = enc1 a := by
  intro n cs' y h
  obtain ⟨n0, e0, _⟩ := DataW.trod_int he h
  exact ⟨n0, e0⟩
end
end Go.Proofs.Ytckjagpjljbohaa

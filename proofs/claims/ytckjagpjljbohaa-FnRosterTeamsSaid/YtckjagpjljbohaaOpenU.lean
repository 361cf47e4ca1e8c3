/- What comes in: bytes; plain ints; what a slice's capacity is. -/
import Derived.Test.YtckjagpjljbohaaOpen
import Derived.Test.YtckjagpjljbohaaDraw
namespace Go.Proofs.Ytckjagpjljbohaa
open Go.ChangeShapes Go.WideShapes Go.ChangeAt Go.RowKit Go.Deep

abbrev U8 := { x : Int // 0 ≤ x ∧ x ≤ 255 }
instance : Inhabited U8 := ⟨⟨0, by omega, by omega⟩⟩
def encU8 (x : U8) : List Value := encU x.1
theorem cellsU {H : Type} {enc : TypeId × Value → H} {P : Program} {w : World} {base : Nat} {spare : Nat → Bool} {held : Bool} {e : TypeId}
    (he : P.underlying e = some (.int .u8)) : ∀ n cs' y, DataW.trod enc P w base spare held n e cs' = some y → ∃ a : U8, cs' = encU8 a := by
  intro n cs' y h
  obtain ⟨n0, e0, _, h1⟩ := DataW.trod_int he h
  have h2 : 0 ≤ n0 ∧ n0 ≤ 255 := by simpa [Lit.wf, IntKind.min, IntKind.max, IntKind.signed, IntKind.bits] using h1
  exact ⟨⟨n0, h2⟩, by rw [e0]; rfl⟩
theorem open_bytes {H : Type} {enc : TypeId × Value → H} {P : Program} {w : World} {base : Nat} {spare : Nat → Bool} {held : Bool} {t e : TypeId} {fuel : Nat} {A : Option Addr} {len cap : Nat} {x : DataW H × List MemPlace}
    (ht : P.underlying t = some (.slice e)) (hC : P.cellsOf e = 1)
    (hcs : ∀ n cs' y, DataW.trod enc P w base spare held n e cs' = some y → ∃ a : U8, cs' = encU8 a)
    (h : DataW.trod enc P w base spare held fuel t [.slice A len cap] = some x) : ∃ xs : List Int, xs.length = len ∧ Rd w A (flU xs) ∧ len ≤ maxLen ∧ Bytes xs := by
  obtain ⟨xs, h1, h2, h3⟩ := open_recs (s := 1) encU8 (fun _ => rfl) (by omega) ht hC hcs h
  refine ⟨xs.map (·.1), by simpa using h1, ?_, h3, fun k hk => ?_⟩
  · have : flU (xs.map (·.1)) = xs.flatMap encU8 := by rw [flU, List.flatMap_map]; rfl
    rw [this]
    exact h2
  · simp only [List.length_map] at hk
    unfold a1
    rw [List.getD_eq_getElem?_getD, List.getElem?_map, List.getElem?_eq_getElem hk]
    exact xs[k].2
theorem okWide_slice_cap {P : Program} {w : World} {r : Reach} {base : Nat} {t : TypeId} {v : Value} {e : TypeId} (ht : P.underlying t = some (.slice e)) (h : Value.okWide P w r base t v) : ∃ a len cap, v = .slice a len cap ∧ len ≤ cap := by
  obtain ⟨a, len, cap, rfl⟩ := okWide_slice ht h
  refine ⟨a, len, cap, rfl, ?_⟩
  simp only [Value.okWide, ht, Cell.okWide] at h
  cases a with
  | none =>
    simp only [Cell.ok, ht] at h
    split at h <;> simp_all
  | some a =>
    simp only [Cell.ok, ht] at h
    exact h.1
end Go.Proofs.Ytckjagpjljbohaa

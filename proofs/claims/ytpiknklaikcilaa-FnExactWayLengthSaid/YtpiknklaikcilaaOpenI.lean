/- What comes in: ints of 64 bits, each in its range. -/
import Derived.Test.YtpiknklaikcilaaOpen
import Derived.Test.YtpiknklaikcilaaMaps
namespace Go.Proofs.Ytpiknklaikcilaa
open Go.ChangeShapes Go.WideShapes Go.ChangeAt Go.RowKit Go.Deep

abbrev I64 := { x : Int // IntOk x }
instance : Inhabited I64 := ⟨⟨0, by unfold IntOk; omega⟩⟩
def encI64 (x : I64) : List Value := enc1 x.1
theorem cellsI {H : Type} {enc : TypeId × Value → H} {P : Program} {w : World} {base : Nat} {spare : Nat → Bool} {held : Bool} {e : TypeId}
    (he : P.underlying e = some (.int .i64)) : ∀ n cs' y, DataW.trod enc P w base spare held n e cs' = some y → ∃ a : I64, cs' = encI64 a := by
  intro n cs' y h
  obtain ⟨n0, e0, _, h1⟩ := DataW.trod_int he h
  exact ⟨⟨n0, IntOk.of h1⟩, by rw [e0]; rfl⟩
theorem open_ints64 {H : Type} {enc : TypeId × Value → H} {P : Program} {w : World} {base : Nat} {spare : Nat → Bool} {held : Bool} {t e : TypeId} {fuel : Nat} {A : Option Addr} {len cap : Nat} {x : DataW H × List MemPlace}
    (ht : P.underlying t = some (.slice e)) (hC : P.cellsOf e = 1)
    (hcs : ∀ n cs' y, DataW.trod enc P w base spare held n e cs' = some y → ∃ a : I64, cs' = encI64 a)
    (h : DataW.trod enc P w base spare held fuel t [.slice A len cap] = some x) : ∃ xs : List Int, xs.length = len ∧ Rd w A (fl1 xs) ∧ len ≤ maxLen ∧ ∀ k, k < xs.length → IntOk (a1 xs k) := by
  obtain ⟨xs, h1, h2, h3⟩ := open_recs (s := 1) encI64 (fun _ => rfl) (by omega) ht hC hcs h
  refine ⟨xs.map (·.1), by simpa using h1, ?_, h3, fun k hk => ?_⟩
  · have : fl1 (xs.map (·.1)) = xs.flatMap encI64 := by rw [fl1, List.flatMap_map]; rfl
    rw [this]
    exact h2
  · simp only [List.length_map] at hk
    unfold a1
    rw [List.getD_eq_getElem?_getD, List.getElem?_map, List.getElem?_eq_getElem hk]
    exact xs[k].2
end Go.Proofs.Ytpiknklaikcilaa

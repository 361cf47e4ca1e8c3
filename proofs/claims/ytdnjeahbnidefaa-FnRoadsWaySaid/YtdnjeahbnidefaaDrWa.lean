/- Walks: a drawn way; backOf of the laws. -/
import Derived.Test.YtdnjeahbnidefaaDrRo2
import Derived.Test.YtdnjeahbnidefaaRo6
import Derived.Test.YtdnjeahbnidefaaGA
namespace Go.Proofs.Ytdnjeahbnidefaa
open Go.RowKit

/-- drawn roads and a list that is often a way -/
def DrawnWay (w : World) (e : Ending) (w' : World) : Prop :=
  ∃ (n : Nat) (rs : List (Int × Int × Int)) (b m c : Nat) (ws : List Int) (b' q c' : Nat), e = .returned (.tuple #[.int .i64 n, .slice (some ⟨b, 0, none⟩) m c, .slice (some ⟨b', 0, none⟩) q c']) ∧ 2 ≤ n ∧ n ≤ 6 ∧ rs.length = m ∧ m ≤ 10 ∧ ws.length = q ∧ q ≤ 16 ∧ (∀ k, k < ws.length → IntOk (a1 ws k)) ∧ w'.ownsRow w.heap.size 32 3 (.slice (some ⟨b, 0, none⟩) m c) m (fl3 rs) ∧ w'.ownsRow w.heap.size 3 1 (.slice (some ⟨b', 0, none⟩) q c') q (fl1 ws) ∧ Below w.heap.size w w'
theorem snoc_all {P : Int → Prop} {ws : List Int} {x : Int} (h : ∀ k, k < ws.length → P (a1 ws k)) (hx : P x) : ∀ k, k < (ws ++ [x]).length → P (a1 (ws ++ [x]) k) := by
  intro k hk
  unfold a1
  by_cases e : k < ws.length
  · rw [List.getD_eq_getElem?_getD, List.getElem?_append_left e, ← List.getD_eq_getElem?_getD]; exact h k e
  · have : k = ws.length := by simp at hk; omega
    subst this
    simpa [List.getD_eq_getElem?_getD] using hx
theorem fl1_take (ls : List Int) (k : Nat) : ∀ (i : Nat) (u : Value), (fl1 (ls.take k))[i]? = some u → (fl1 ls)[i]? = some u := by
  intro i u h
  have e : fl1 ls = fl1 (ls.take k) ++ fl1 (ls.drop k) := by rw [fl1, fl1, fl1, ← List.flatMap_append, List.take_append_drop]
  rw [e, List.getElem?_append_left (List.getElem?_eq_some_iff.1 h).1]
  exact h
theorem fl1_drop (ls : List Int) (k : Nat) (hk : k ≤ ls.length) : ∀ (i : Nat) (u : Value), (fl1 (ls.drop k))[i]? = some u → (fl1 ls)[k + i]? = some u := by
  intro i u h
  have e : fl1 ls = fl1 (ls.take k) ++ fl1 (ls.drop k) := by rw [fl1, fl1, fl1, ← List.flatMap_append, List.take_append_drop]
  have hl : (fl1 (ls.take k)).length = k := by rw [fl1_len, List.length_take]; omega
  rw [e, List.getElem?_append_right (by omega), hl, Nat.add_sub_cancel_left]
  exact h
theorem fl1_nil_of {ls : List Int} (e : fl1 ls = []) : ls = [] := by
  have e1 := congrArg List.length e
  rw [fl1_len] at e1
  exact List.eq_nil_of_length_eq_zero (by simpa using e1)
theorem Rd.take1 {w : World} {A : Option Addr} {ls : List Int} (h : Rd w A (fl1 ls)) (k : Nat) : Rd w A (fl1 (ls.take k)) := fun hn => by
  obtain ⟨b, off, rfl, hlt, hc⟩ := h (fun e => hn (by rw [fl1_nil_of e]; simp [fl1]))
  exact ⟨b, off, rfl, hlt, fun i u hu => hc i u (fl1_take ls k i u hu)⟩
theorem Rd.drop1 {w : World} {b off : Nat} {ls : List Int} (h : Rd w (some ⟨b, off, none⟩) (fl1 ls)) (k : Nat) (hk : k ≤ ls.length) : Rd w (some ⟨b, off + k, none⟩) (fl1 (ls.drop k)) := fun hn => by
  obtain ⟨b', off', e, hlt, hc⟩ := h (fun e => hn (by rw [fl1_nil_of e]; simp [fl1]))
  cases e
  exact ⟨b, off + k, rfl, hlt, fun i u hu => by rw [Nat.add_assoc]; exact hc _ _ (fl1_drop ls k hk i u hu)⟩
end Go.Proofs.Ytdnjeahbnidefaa

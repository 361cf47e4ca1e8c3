/- Plain laws: the length of a way. No program is named here. -/
import Derived.Test.YtdnjeahbnidefaaRoCn
namespace Go.Proofs.Ytdnjeahbnidefaa

/-- the miles between two towns, -1 for none -/
def direct (n : Int) (rs : List (Int × Int × Int)) (a b : Int) : Int := if roadsValid n rs = true then edge rs a b else -1
/-- a way goes on at an index -/
def wayOne (n : Int) (rs : List (Int × Int × Int)) (ws : List Int) (i : Nat) : Bool := (decide (0 ≤ a1 ws i) && decide (a1 ws i ≤ n - 1)) && (decide (i = 0) || decide (0 ≤ edge rs (a1 ws (i - 1)) (a1 ws i)))
def wayTo (n : Int) (rs : List (Int × Int × Int)) (ws : List Int) : Nat → Bool
  | 0 => true
  | k + 1 => wayTo n rs ws k && wayOne n rs ws k
def waySum (rs : List (Int × Int × Int)) (ws : List Int) : Nat → Int
  | 0 => 0
  | k + 1 => waySum rs ws k + (if k = 0 then 0 else edge rs (a1 ws (k - 1)) (a1 ws k))
def wayOk (n : Int) (rs : List (Int × Int × Int)) (ws : List Int) : Bool := (roadsValid n rs && decide (1 ≤ ws.length)) && wayTo n rs ws ws.length
def wayLength (n : Int) (rs : List (Int × Int × Int)) (ws : List Int) : Int := if wayOk n rs ws = true then waySum rs ws ws.length else -1
theorem wayTo_no {n : Int} {rs : List (Int × Int × Int)} {ws : List Int} {k : Nat} (h : wayOne n rs ws k = false) : ∀ m, k < m → wayTo n rs ws m = false := by
  intro m
  induction m with
  | zero => intro h; omega
  | succ m ih =>
    intro hk
    rw [wayTo]
    by_cases e : k = m
    · subst e; rw [h, Bool.and_false]
    · rw [ih (by omega), Bool.false_and]
theorem wayTo_iff {n : Int} {rs : List (Int × Int × Int)} {ws : List Int} : ∀ m, wayTo n rs ws m = true ↔ ∀ j, j < m → wayOne n rs ws j = true := by
  intro m
  induction m with
  | zero => simp [wayTo]
  | succ m ih =>
    rw [wayTo, Bool.and_eq_true, ih]
    constructor
    · rintro ⟨h1, h2⟩ j hj
      by_cases e : j = m
      · subst e; exact h2
      · exact h1 j (by omega)
    · intro h
      exact ⟨fun j hj => h j (by omega), h m (by omega)⟩
theorem wayOne_first {n : Int} {rs : List (Int × Int × Int)} {ws : List Int} : wayOne n rs ws 0 = (decide (0 ≤ a1 ws 0) && decide (a1 ws 0 ≤ n - 1)) := by
  unfold wayOne; simp
theorem RV.wayOne_next {n : Nat} {rs : List (Int × Int × Int)} (h : RV n rs) {ws : List Int} {i : Nat} (hi : 0 < i) : wayOne n rs ws i = decide (0 ≤ edge rs (a1 ws (i - 1)) (a1 ws i)) := by
  unfold wayOne
  rw [decide_eq_false (show ¬ i = 0 by omega), Bool.false_or]
  by_cases c : 0 ≤ edge rs (a1 ws (i - 1)) (a1 ws i)
  · obtain ⟨_, _, _, _, g1, g2, _⟩ := h.edge_pos c
    rw [decide_eq_true c, decide_eq_true g1, decide_eq_true (by omega)]; rfl
  · rw [decide_eq_false c, Bool.and_false]
theorem RV.waySum_in {n : Nat} {rs : List (Int × Int × Int)} (h : RV n rs) {ws : List Int} : ∀ m, wayTo n rs ws m = true → 0 ≤ waySum rs ws m ∧ waySum rs ws m ≤ 99 * m := by
  intro m
  induction m with
  | zero => intro _; simp [waySum]
  | succ m ih =>
    intro hm
    rw [wayTo, Bool.and_eq_true] at hm
    have h1 := ih hm.1
    rw [waySum]
    by_cases e : m = 0
    · rw [if_pos e]; omega
    · rw [if_neg e]
      have h2 := hm.2
      rw [h.wayOne_next (by omega), decide_eq_true_eq] at h2
      have := h.edge_le (a1 ws (m - 1)) (a1 ws m)
      omega
end Go.Proofs.Ytdnjeahbnidefaa

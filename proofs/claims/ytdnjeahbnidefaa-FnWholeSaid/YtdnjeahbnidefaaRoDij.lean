/- Plain laws: the nearest town is taken next (Dijkstra). No program is named here. -/
import Derived.Test.YtdnjeahbnidefaaRoWay
import Derived.Test.YtdnjeahbnidefaaHeap
namespace Go.Proofs.Ytdnjeahbnidefaa

section
variable {e : Nat → Nat → Int} {n s : Nat} {F : Nat → Int} {H : List (Int × Int)}
/-- a way from a reached town to one that is not leaves the reached ones somewhere -/
theorem Wk.cross {k x t : Nat} {L : Int} (h : Wk e n k x t L) (hx : 0 ≤ F x) (ht : F t < 0) : ∃ a u P, 0 ≤ F a ∧ F u < 0 ∧ 1 ≤ e a u ∧ u < n ∧ (∃ j, Wk e n j x a P) ∧ P + e a u ≤ L := by
  induction h with
  | nil h => omega
  | @cons a b c k L h1 h2 h3 ih =>
    by_cases hb : 0 ≤ F b
    · obtain ⟨p, u, P, g1, g2, g3, g4, ⟨j, g5⟩, g6⟩ := ih hb ht
      exact ⟨p, u, e a b + P, g1, g2, g3, g4, ⟨j + 1, .cons h1 h2 g5⟩, by omega⟩
    · exact ⟨a, b, 0, hx, by omega, h2, h3.lt_l, ⟨0, .nil h1⟩, by have := h3.ge; omega⟩
/-- reached towns have their distances; the heap knows ways, and what lies next to what is reached -/
structure DijN (e : Nat → Nat → Int) (n s : Nat) (F : Nat → Int) (H : List (Int × Int)) (skip : Nat → Nat → Prop) : Prop where
  fin : ∀ t, 0 ≤ F t → IsD e n s t (F t)
  heap : ∀ x, x ∈ H → ∃ t : Nat, x.1 = t ∧ t < n ∧ ∃ k, Wk e n k s t x.2
  edge : ∀ t u, 0 ≤ F t → F u < 0 → 1 ≤ e t u → u < n → ¬ skip t u → ∃ x, x ∈ H ∧ x.1 = u ∧ x.2 ≤ F t + e t u
  start : 0 ≤ F s ∨ ∃ x, x ∈ H ∧ x.1 = s ∧ x.2 ≤ 0
def Dij (e : Nat → Nat → Int) (n s : Nat) (F : Nat → Int) (H : List (Int × Int)) : Prop := DijN e n s F H (fun _ _ => False)
theorem Dij.first (hs : s < n) : Dij e n s (fun _ => -1) [((s : Int), 0)] where
  fin := fun t h => by omega
  heap := fun x hx => by
    cases List.mem_singleton.1 hx
    exact ⟨s, rfl, hs, 0, .nil hs⟩
  edge := fun t u h => by omega
  start := .inr ⟨_, List.mem_singleton.2 rfl, rfl, Int.le_refl _⟩
/-- a town that is reached already is passed by -/
theorem Dij.pass (h : Dij e n s F H) {H' : List (Int × Int)} {x : Int × Int} {t : Nat} (hm : ∀ y, y ∈ H ↔ y = x ∨ y ∈ H') (hx : x.1 = t) (ht : 0 ≤ F t) : Dij e n s F H' where
  fin := h.fin
  heap := fun y hy => h.heap y ((hm y).2 (.inr hy))
  edge := fun a u g1 g2 g3 g4 g5 => by
    obtain ⟨y, y1, y2, y3⟩ := h.edge a u g1 g2 g3 g4 g5
    rcases (hm y).1 y1 with rfl | y1
    · obtain rfl : t = u := by omega
      omega
    · exact ⟨y, y1, y2, y3⟩
  start := by
    rcases h.start with g | ⟨y, y1, y2, y3⟩
    · exact .inl g
    · rcases (hm y).1 y1 with rfl | y1
      · obtain rfl : t = s := by omega
        exact .inl ht
      · exact .inr ⟨y, y1, y2, y3⟩
/-- the least of the heap has its distance -/
theorem Dij.least (h : Dij e n s F H) {x : Int × Int} {t : Nat} (hm : x ∈ H) (hl : ∀ y, y ∈ H → x.2 ≤ y.2) (hx : x.1 = t) (ht : F t < 0) : IsD e n s t x.2 := by
  obtain ⟨t', e1, t1, k, w⟩ := h.heap x hm
  obtain rfl : t' = t := by omega
  refine ⟨⟨k, w⟩, fun j L g => ?_⟩
  rcases h.start with hs | ⟨y, y1, y2, y3⟩
  · obtain ⟨a, u, P, g1, g2, g3, g4, ⟨i, g5⟩, g6⟩ := g.cross hs ht
    obtain ⟨y, y1, y2, y3⟩ := h.edge a u g1 g2 g3 g4 (fun f => f)
    have := hl y y1
    have := (h.fin a g1).2 _ _ g5
    omega
  · have := hl y y1
    have := g.ge
    omega
def upd (F : Nat → Int) (t : Nat) (d : Int) : Nat → Int := fun i => if i = t then d else F i
theorem upd_same (F : Nat → Int) (t : Nat) (d : Int) : upd F t d t = d := if_pos rfl
theorem upd_ne (F : Nat → Int) (d : Int) {i t : Nat} (h : i ≠ t) : upd F t d i = F i := if_neg h
/-- .. and is taken; its neighbors are still to come -/
theorem Dij.take (h : Dij e n s F H) {H' : List (Int × Int)} {x : Int × Int} {t : Nat} (hm : ∀ y, y ∈ H ↔ y = x ∨ y ∈ H') (hl : ∀ y, y ∈ H → x.2 ≤ y.2) (hx : x.1 = t) (ht : F t < 0) : DijN e n s (upd F t x.2) H' (fun a _ => a = t) := by
  have hd := h.least ((hm x).2 (.inl rfl)) hl hx ht
  refine ⟨fun a ha => ?_, fun y hy => h.heap y ((hm y).2 (.inr hy)), fun a u g1 g2 g3 g4 g5 => ?_, ?_⟩
  · by_cases c : a = t
    · subst c; rw [upd_same]; exact hd
    · rw [upd_ne _ _ c] at ha ⊢; exact h.fin a ha
  · have hu : u ≠ t := fun e => by subst e; rw [upd_same] at g2; have := hd.ge; omega
    rw [upd_ne _ _ g5] at g1 ⊢
    rw [upd_ne _ _ hu] at g2
    obtain ⟨y, y1, y2, y3⟩ := h.edge a u g1 g2 g3 g4 (fun f => f)
    rcases (hm y).1 y1 with rfl | y1
    · exact absurd (show u = t by omega) hu
    · exact ⟨y, y1, y2, y3⟩
  · by_cases c : s = t
    · subst c; left; rw [upd_same]; exact hd.ge
    · rcases h.start with g | ⟨y, y1, y2, y3⟩
      · left; rw [upd_ne _ _ c]; exact g
      · right
        rcases (hm y).1 y1 with rfl | y1
        · exact absurd (show s = t by omega) c
        · exact ⟨y, y1, y2, y3⟩
/-- a neighbor that is reached wants nothing -/
theorem DijN.pass {S : Nat → Nat → Prop} (h : DijN e n s F H S) {v t : Nat} (hv : 0 ≤ F v) : DijN e n s F H (fun a u => S a u ∧ ¬ (a = t ∧ u = v)) :=
  ⟨h.fin, h.heap, fun a u g1 g2 g3 g4 g5 => h.edge a u g1 g2 g3 g4 (fun f => g5 ⟨f, fun ⟨_, e⟩ => by subst e; omega⟩), h.start⟩
/-- a neighbor is laid into the heap -/
theorem DijN.push {S : Nat → Nat → Prop} (h : DijN e n s F H S) {H' : List (Int × Int)} {v t : Nat} (ht : 0 ≤ F t) (he : 1 ≤ e t v) (hvn : v < n) (hm : ∀ y, y ∈ H' ↔ y = ((v : Int), F t + e t v) ∨ y ∈ H) : DijN e n s F H' (fun a u => S a u ∧ ¬ (a = t ∧ u = v)) := by
  refine ⟨h.fin, fun y hy => ?_, fun a u g1 g2 g3 g4 g5 => ?_, ?_⟩
  · rcases (hm y).1 hy with rfl | hy
    · obtain ⟨⟨k, w⟩, _⟩ := h.fin t ht
      exact ⟨v, rfl, hvn, k + 1, w.append (Wk.one w.lt_r hvn he)⟩
    · exact h.heap y hy
  · by_cases c : a = t ∧ u = v
    · obtain ⟨rfl, rfl⟩ := c
      exact ⟨_, (hm _).2 (.inl rfl), rfl, Int.le_refl _⟩
    · obtain ⟨y, y1, y2, y3⟩ := h.edge a u g1 g2 g3 g4 (fun f => g5 ⟨f, c⟩)
      exact ⟨y, (hm y).2 (.inr y1), y2, y3⟩
  · rcases h.start with g | ⟨y, y1, y2, y3⟩
    · exact .inl g
    · exact .inr ⟨y, (hm y).2 (.inr y1), y2, y3⟩
theorem DijN.mono {S T : Nat → Nat → Prop} (h : DijN e n s F H S) (hst : ∀ a u, 1 ≤ e a u → S a u → T a u) : DijN e n s F H T :=
  ⟨h.fin, h.heap, fun a u g1 g2 g3 g4 g5 => h.edge a u g1 g2 g3 g4 (fun f => g5 (hst a u g3 f)), h.start⟩
/-- when nothing is left in the heap all that can be reached is -/
theorem Dij.last (h : Dij e n s F []) {t : Nat} (ht : F t < 0) : NoWay e n s t := fun k L g => by
  rcases h.start with hs | ⟨y, y1, _⟩
  · obtain ⟨a, u, P, g1, g2, g3, g4, _, _⟩ := g.cross hs ht
    obtain ⟨y, y1, _⟩ := h.edge a u g1 g2 g3 g4 (fun f => f)
    cases y1
  · cases y1
end
end Go.Proofs.Ytdnjeahbnidefaa

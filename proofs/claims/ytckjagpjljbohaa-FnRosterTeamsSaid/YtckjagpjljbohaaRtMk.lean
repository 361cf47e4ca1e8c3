/- Plain laws: two piles of teams, and what RosterMake keeps. -/
import Derived.Test.YtckjagpjljbohaaPile3
namespace Go.Proofs.Ytckjagpjljbohaa
open Go.RowKit

theorem own_atP {w w' : World} {base t size n : Nat} {v : Value} {xs : List Value} (h : w.ownsRow base t size v n xs) (hb : ∀ g, v.ownBlock = some g → w'.heap[g]? = w.heap[g]?) : w'.ownsRow base t size v n xs := by
  refine ⟨h.1, ?_⟩
  rcases h.2 with hn | ⟨g, c, cur, rfl, h1, h2, rest⟩
  · exact .inl hn
  · exact .inr ⟨g, c, cur, rfl, h1, (hb g rfl).trans h2, rest⟩
section
variable {b b' : Bool} {w w' w0 : World} {h h' base base' : Nat} {o o' o2 : Option Nat} {n c n' c' : Nat} {xs xs' : List (Int × Int)}
theorem PL.off {D : Nat} {cs : Array Value} {t : TypeId} (hp : PL b w h base o n c xs) (hD : w.heap[D]? = some (.cells cs t)) (h1 : t ≠ 54) (h2 : t ≠ 58) : D ≠ h ∧ o ≠ some D := by
  obtain ⟨p1, _, p3⟩ := hp
  refine ⟨fun e => ?_, fun e => ?_⟩
  · subst e
    rw [p1] at hD
    injection hD with hD
    injection hD with _ hD
    exact h2 hD.symm
  · subst e
    rcases p3.2 with ⟨hv, _⟩ | ⟨g', c', cur, hv, _, hh, _⟩
    · cases hv
    · simp only [psl, Option.map_some, Value.slice.injEq, Option.some.injEq, Addr.mk.injEq] at hv
      rw [← hv.1.1, hD] at hh
      injection hh with hh
      injection hh with _ hh
      exact h1 hh
theorem PStep.at {D : Nat} {x : Obj} (hs : PStep w w' h o o') (hD : w.heap[D]? = some x) (h1 : D ≠ h) (h2 : o ≠ some D) : w'.heap[D]? = some x :=
  (hs.2.2.1 D (Array.getElem?_eq_some_iff.1 hD).1 h1 h2).trans hD
theorem PL.neP (hp : PL b w h base o n c xs) (hp2 : PL b' w h' base' o2 n' c' xs') : o ≠ some h' := fun e => by
  subst e
  rcases hp.2.2.2 with ⟨hv, _⟩ | ⟨g', c', cur, hv, _, hh, _⟩
  · cases hv
  · simp only [psl, Option.map_some, Value.slice.injEq, Option.some.injEq, Addr.mk.injEq] at hv
    rw [← hv.1.1, hp2.1] at hh
    injection hh with hh
    injection hh with _ hh
    cases hh
/-- the other pile lies as it lay -/
theorem PL.other (hp2 : PL b' w h' base' o2 n' c' xs') (hp : PL b w h base o n c xs) (hs : PStep w w' h o o') (hh : h' ≠ h) (hoo : ∀ g, o2 = some g → o ≠ some g) : PL b' w' h' base' o2 n' c' xs' := by
  refine ⟨hs.at hp2.1 hh (hp.neP hp2), hp2.2.1, own_atP hp2.2.2 (fun g e => ?_)⟩
  rw [psl_own] at e
  have hg := hp2.low e
  exact hs.2.2.1 g hg.2 (fun e2 => hp2.neP hp (e2 ▸ e)) (hoo g e)
/-- a row of ints lies as it lay -/
theorem own_pstep {bs t size k : Nat} {v : Value} {ys : List Value} (ho : w.ownsRow bs t size v k ys) (hp : PL b w h base o n c xs) (hs : PStep w w' h o o') (h1 : t ≠ 54) (h2 : t ≠ 58) : w'.ownsRow bs t size v k ys := by
  refine ⟨ho.1, ?_⟩
  rcases ho.2 with hn | ⟨g, c, cur, rfl, q1, q2, rest⟩
  · exact .inl hn
  · have := hp.off q2 h1 h2
    exact .inr ⟨g, c, cur, rfl, q1, hs.at q2 this.1 this.2, rest⟩
end
/-- two piles: the busy teams, the idle ones -/
def RM (w0 w : World) (hB hI : Nat) (oB oI : Option Nat) (nB cB nI cI : Nat) (Bs Is : List (Int × Int)) : Prop :=
  (PL true w hB w0.heap.size oB nB cB Bs ∧ PL false w hI w0.heap.size oI nI cI Is) ∧ (HeapN (pkey true) Bs nB ∧ HeapN (pkey false) Is nI) ∧ (hB ≠ hI ∧ ∀ g, oB = some g → oI ≠ some g) ∧ (w0.heap.size ≤ hB ∧ w0.heap.size ≤ hI) ∧ Below w0.heap.size w0 w
section
variable {w0 w w' : World} {hB hI : Nat} {oB oI : Option Nat} {nB cB nI cI : Nat} {Bs Is : List (Int × Int)}
theorem RM.busy (r : RM w0 w hB hI oB oI nB cB nI cI Bs Is) {o' : Option Nat} {n' c' : Nat} {Bs' : List (Int × Int)} (hp : PL true w' hB w0.heap.size o' n' c' Bs') (hh : HeapN (pkey true) Bs' n') (hs : PStep w w' hB oB o') : RM w0 w' hB hI o' oI n' c' nI cI Bs' Is := by
  obtain ⟨⟨p1, p2⟩, ⟨h1, h2⟩, ⟨d1, d2⟩, ⟨e1, e2⟩, bl⟩ := r
  refine ⟨⟨hp, p2.other p1 hs (fun e => d1 e.symm) (fun g e e3 => d2 g e3 e)⟩, ⟨hh, h2⟩, ⟨d1, fun g e e3 => ?_⟩, ⟨e1, e2⟩, hs.below bl e1 (fun g e => (p1.low e).1)⟩
  rcases hs.2.2.2 g e with q | q
  · exact d2 g q e3
  · have := p2.low e3; omega
theorem RM.idle (r : RM w0 w hB hI oB oI nB cB nI cI Bs Is) {o' : Option Nat} {n' c' : Nat} {Is' : List (Int × Int)} (hp : PL false w' hI w0.heap.size o' n' c' Is') (hh : HeapN (pkey false) Is' n') (hs : PStep w w' hI oI o') : RM w0 w' hB hI oB o' nB cB n' c' Bs Is' := by
  obtain ⟨⟨p1, p2⟩, ⟨h1, h2⟩, ⟨d1, d2⟩, ⟨e1, e2⟩, bl⟩ := r
  refine ⟨⟨p1.other p2 hs d1 d2, hp⟩, ⟨h1, hh⟩, ⟨d1, fun g e e3 => ?_⟩, ⟨e1, e2⟩, hs.below bl e2 (fun g e => (p2.low e).1)⟩
  rcases hs.2.2.2 g e3 with q | q
  · exact d2 g e q
  · have := p1.low e; omega
theorem RM.below (r : RM w0 w hB hI oB oI nB cB nI cI Bs Is) (hb : Below w.heap.size w w') : RM w0 w' hB hI oB oI nB cB nI cI Bs Is := by
  obtain ⟨⟨p1, p2⟩, hh, d, ⟨e1, e2⟩, bl⟩ := r
  exact ⟨⟨p1.below hb, p2.below hb⟩, hh, d, ⟨e1, e2⟩, bl.trans (hb.mono bl.size)⟩
end
/-- what the teams are, ahead of run i: the roster so far, the busy and the idle ones, t teams in all -/
def Mk (rs : List (Int × Int)) (rest : Int) (T : Nat) (ro : List Int) (Bs Is : List (Int × Int)) (t i : Nat) : Prop :=
  (∀ p ∈ Bs, (0 ≤ p.1 ∧ p.1 < t) ∧ ∃ j, j < i ∧ a1 ro j = p.1 ∧ p.2 = b2 rs j + rest) ∧ (∀ p ∈ Is, 0 ≤ p.1 ∧ p.1 < t) ∧
  (∀ u : Nat, u < t → (∃ p ∈ Bs, p.1 = u) ∨ ∃ p ∈ Is, p.1 = u) ∧ (∀ j, j < i → 0 ≤ a1 ro j ∧ a1 ro j < t) ∧ t ≤ T
theorem Mk.start (rs : List (Int × Int)) (rest : Int) (T : Nat) : Mk rs rest T [] [] [] 0 0 :=
  ⟨fun p h => (nomatch h), fun p h => (nomatch h), fun u h => by omega, fun j h => by omega, Nat.zero_le _⟩
section
variable {rs : List (Int × Int)} {rest : Int} {T : Nat} {ro : List Int} {Bs Is Bs' Is' : List (Int × Int)} {t i : Nat} {z : Int × Int}
/-- a busy team comes to rest -/
theorem Mk.free (h : Mk rs rest T ro Bs Is t i) (hB : ∀ u, u ∈ Bs ↔ u = z ∨ u ∈ Bs') (hI : ∀ u, u ∈ Is' ↔ u = z ∨ u ∈ Is) : Mk rs rest T ro Bs' Is' t i := by
  obtain ⟨h1, h2, h3, h4, h5⟩ := h
  refine ⟨fun p hp => h1 p ((hB p).2 (.inr hp)), fun p hp => ?_, fun u hu => ?_, h4, h5⟩
  · rcases (hI p).1 hp with rfl | hp
    · exact (h1 p ((hB p).2 (.inl rfl))).1
    · exact h2 p hp
  · rcases h3 u hu with ⟨p, hp, e⟩ | ⟨p, hp, e⟩
    · rcases (hB p).1 hp with rfl | hp
      · exact .inr ⟨p, (hI p).2 (.inl rfl), e⟩
      · exact .inl ⟨p, hp, e⟩
    · exact .inr ⟨p, (hI p).2 (.inr hp), e⟩
/-- all teams are busy still: a new one is needed -/
theorem Mk.fresh {gro : List Int} (hv : rosterValid rs rest gro = true) (h : Mk rs rest (diffTo gro gro.length) ro Bs [] t i) (hi : i < rs.length) (hB : ∀ p ∈ Bs, a2 rs i < p.2) (hI : ∀ u, u ∈ Is' ↔ u = ((t : Int), 0) ∨ u ∈ ([] : List (Int × Int))) :
    Mk rs rest (diffTo gro gro.length) ro Bs Is' (t + 1) i := by
  obtain ⟨h1, h2, h3, h4, h5⟩ := h
  have hT : t + 1 ≤ diffTo gro gro.length := by
    have hr := (rosterValid_t hv).1
    obtain ⟨_, ⟨r0, _⟩, hin⟩ := runsRest_in hr
    have hex : ∀ u : Nat, u < t → ∃ j, j < i ∧ a1 ro j = u ∧ a2 rs i < b2 rs j + rest := fun u hu => by
      rcases h3 u hu with ⟨p, hp, e⟩ | ⟨p, hp, _⟩
      · obtain ⟨_, j, hj, e1, e2⟩ := h1 p hp
        exact ⟨j, hj, by rw [e1, e], by rw [← e2]; exact hB p hp⟩
      · exact nomatch hp
    obtain ⟨f, hf⟩ : ∃ f : Nat → Nat, ∀ u, u < t → f u < i ∧ a1 ro (f u) = u ∧ a2 rs i < b2 rs (f u) + rest := by
      classical
      exact ⟨fun u => if hu : u < t then Classical.choose (hex u hu) else 0, fun u hu => by
        simp only [dif_pos hu]
        exact Classical.choose_spec (hex u hu)⟩
    have := overlap hv (t := a2 rs i) (js := i :: (List.range t).map f) (by
      rw [List.nodup_cons]
      refine ⟨fun hm => ?_, ?_⟩
      · obtain ⟨u, hu, e⟩ := List.mem_map.1 hm
        have := (hf u (List.mem_range.1 hu)).1
        omega
      · unfold List.Nodup
        rw [List.pairwise_map]
        refine List.nodup_range.imp_of_mem fun {a b} ha hb hab e => hab ?_
        have e1 := (hf a (List.mem_range.1 ha)).2.1
        have e2 := (hf b (List.mem_range.1 hb)).2.1
        rw [e] at e1
        omega) (fun j hj => by
      rcases List.mem_cons.1 hj with rfl | hj
      · have := hin j hi; exact ⟨hi, Int.le_refl _, by omega⟩
      · obtain ⟨u, hu, rfl⟩ := List.mem_map.1 hj
        obtain ⟨q1, _, q3⟩ := hf u (List.mem_range.1 hu)
        exact ⟨by omega, runsRest_asc hr (by omega) hi, q3⟩)
    simpa using this
  refine ⟨fun p hp => ?_, fun p hp => ?_, fun u hu => ?_, fun j hj => ?_, hT⟩
  · obtain ⟨q1, q2⟩ := h1 p hp
    exact ⟨by omega, q2⟩
  · rcases (hI p).1 hp with rfl | hp
    · exact ⟨by simp, by simp; omega⟩
    · exact nomatch hp
  · by_cases e : u = t
    · subst e
      exact .inr ⟨((u : Int), 0), (hI _).2 (.inl rfl), rfl⟩
    · rcases h3 u (by omega) with q | ⟨p, hp, _⟩
      · exact .inl q
      · exact nomatch hp
  · have := h4 j hj; omega
/-- the team that takes the run -/
theorem Mk.take (h : Mk rs rest T ro Bs Is t i) (hl : ro.length = i) (hI : ∀ u, u ∈ Is ↔ u = z ∨ u ∈ Is') (hB : ∀ u, u ∈ Bs' ↔ u = (z.1, b2 rs i + rest) ∨ u ∈ Bs) : Mk rs rest T (ro ++ [z.1]) Bs' Is' t (i + 1) := by
  obtain ⟨h1, h2, h3, h4, h5⟩ := h
  have e0 : ∀ j, j < i → a1 (ro ++ [z.1]) j = a1 ro j := fun j hj => by
    unfold a1; rw [List.getD_eq_getElem?_getD, List.getElem?_append_left (by omega), ← List.getD_eq_getElem?_getD]
  have e1 : a1 (ro ++ [z.1]) i = z.1 := by
    unfold a1; rw [List.getD_eq_getElem?_getD, List.getElem?_append_right (by omega), hl, Nat.sub_self]; rfl
  have hz := h2 z ((hI z).2 (.inl rfl))
  refine ⟨fun p hp => ?_, fun p hp => h2 p ((hI p).2 (.inr hp)), fun u hu => ?_, fun j hj => ?_, h5⟩
  · rcases (hB p).1 hp with rfl | hp
    · exact ⟨hz, i, by omega, e1, rfl⟩
    · obtain ⟨q1, j, hj, q2, q3⟩ := h1 p hp
      exact ⟨q1, j, by omega, by rw [e0 j hj]; exact q2, q3⟩
  · rcases h3 u hu with ⟨p, hp, e⟩ | ⟨p, hp, e⟩
    · exact .inl ⟨p, (hB p).2 (.inr hp), e⟩
    · rcases (hI p).1 hp with rfl | hp
      · exact .inl ⟨_, (hB _).2 (.inl rfl), e⟩
      · exact .inr ⟨p, hp, e⟩
  · by_cases e : j = i
    · subst e; rw [e1]; exact hz
    · rw [e0 j (by omega)]; exact h4 j (by omega)
end
end Go.Proofs.Ytckjagpjljbohaa

/- Plain laws of FnRoadsMany: ways of a length are counted, from both ends. No program is named here. -/
import Derived.Test.YtdnjeahbnidefaaRoMany
import Derived.Test.YtdnjeahbnidefaaRo5
namespace Go.Proofs.Ytdnjeahbnidefaa
open Go.RowKit
theorem sumTo_zero {f : Nat → Int} (n : Nat) (h : ∀ v, v < n → f v = 0) : sumTo f n = 0 := by
  induction n with
  | zero => rfl
  | succ n ih => rw [sumTo, ih (fun v hv => h v (by omega)), h n (by omega)]; rfl
theorem sumTo_one {f : Nat → Int} {b : Nat} (n : Nat) (hb : b < n) (h : ∀ v, v < n → v ≠ b → f v = 0) : sumTo f n = f b := by
  induction n with
  | zero => omega
  | succ n ih =>
    rw [sumTo]
    by_cases e : b = n
    · subst e
      rw [sumTo_zero b (fun v hv => h v (by omega) (by omega)), Int.zero_add]
    · rw [ih (by omega) (fun v hv => h v (by omega)), h n (by omega) (fun q => e q.symm), Int.add_zero]
theorem sumTo_plus (f g : Nat → Int) (n : Nat) : sumTo (fun v => f v + g v) n = sumTo f n + sumTo g n := by
  induction n with
  | zero => rfl
  | succ n ih => rw [sumTo, sumTo, sumTo, ih]; omega
theorem sumTo_swap (f : Nat → Nat → Int) (n m : Nat) : sumTo (fun v => sumTo (fun u => f v u) m) n = sumTo (fun u => sumTo (fun v => f v u) n) m := by
  induction n with
  | zero => rw [sumTo]; exact (sumTo_zero m (fun _ _ => rfl)).symm
  | succ n ih =>
    rw [sumTo, ih, ← sumTo_plus]
    exact sumTo_congr m (fun _ _ => rfl)
theorem sumTo_if (p : Prop) [Decidable p] (f : Nat → Int) (n : Nat) : sumTo (fun v => if p then f v else 0) n = if p then sumTo f n else 0 := by
  by_cases h : p
  · rw [if_pos h]; exact sumTo_congr n (fun _ _ => if_pos h)
  · rw [if_neg h]; exact sumTo_zero n (fun _ _ => if_neg h)
/-- how many ways of k edges and a length there are -/
def cw (n : Nat) (e : Nat → Nat → Int) : Nat → Int → Nat → Nat → Int
  | 0, L, a, b => if a = b ∧ L = 0 then 1 else 0
  | k + 1, L, a, b => sumTo (fun v => if 1 ≤ e a v then cw n e k (L - e a v) v b else 0) n
section
variable {n : Nat} {e : Nat → Nat → Int}
theorem cw_right : ∀ (k : Nat) (L : Int) (a b : Nat), a < n → b < n → cw n e (k + 1) L a b = sumTo (fun u => if 1 ≤ e u b then cw n e k (L - e u b) a u else 0) n := by
  intro k
  induction k with
  | zero =>
    intro L a b ha hb
    rw [cw, sumTo_one n hb (fun v _ hv => by simp [cw, hv]), sumTo_one n ha (fun v _ hv => by rw [cw, if_neg (fun q : a = v ∧ _ => hv q.1.symm)]; split <;> rfl)]
    simp [cw]
  | succ k ih =>
    intro L a b ha hb
    rw [cw]
    have h1 : sumTo (fun v => if 1 ≤ e a v then cw n e (k + 1) (L - e a v) v b else 0) n = sumTo (fun v => sumTo (fun u => if 1 ≤ e a v then (if 1 ≤ e u b then cw n e k (L - e a v - e u b) v u else 0) else 0) n) n := by
      refine sumTo_congr n (fun v hv => ?_)
      rw [sumTo_if, ih _ v b hv hb]
    have h2 : sumTo (fun u => if 1 ≤ e u b then cw n e (k + 1) (L - e u b) a u else 0) n = sumTo (fun u => sumTo (fun v => if 1 ≤ e u b then (if 1 ≤ e a v then cw n e k (L - e u b - e a v) v u else 0) else 0) n) n := by
      refine sumTo_congr n (fun u _ => ?_)
      rw [sumTo_if, cw]
    rw [h1, h2, sumTo_swap]
    refine sumTo_congr n (fun u _ => sumTo_congr n (fun v _ => ?_))
    by_cases c1 : 1 ≤ e a v
    · by_cases c2 : 1 ≤ e u b
      · rw [if_pos c1, if_pos c2, if_pos c2, if_pos c1, show L - e a v - e u b = L - e u b - e a v by omega]
      · rw [if_pos c1, if_neg c2, if_neg c2]
    · rw [if_neg c1]
      by_cases c2 : 1 ≤ e u b
      · rw [if_pos c2, if_neg c1]
      · rw [if_neg c2]
theorem cw_symm (hs : ∀ a b, e a b = e b a) : ∀ (k : Nat) (L : Int) (a b : Nat), a < n → b < n → cw n e k L a b = cw n e k L b a := by
  intro k
  induction k with
  | zero =>
    intro L a b _ _
    rw [cw, cw]
    by_cases c : a = b ∧ L = 0
    · rw [if_pos c, if_pos ⟨c.1.symm, c.2⟩]
    · rw [if_neg c, if_neg (fun q => c ⟨q.1.symm, q.2⟩)]
  | succ k ih =>
    intro L a b ha hb
    rw [cw_right k L b a hb ha, cw]
    refine sumTo_congr n (fun v hv => ?_)
    rw [hs v a, ih _ v b hv hb]
end
section
variable {n : Nat} {rs : List (Int × Int × Int)}
theorem RV.dist_tri (h : RV n rs) {a b v : Nat} (hb : b < n) (ha : a < n) (hv : v < n) (he : 1 ≤ eN rs a v) (h0 : 0 ≤ dist n rs b v) : 0 ≤ dist n rs b a ∧ dist n rs b a ≤ eN rs a v + dist n rs b v := by
  have c1 := h.dist_comm hb hv
  have c2 := h.dist_comm hb ha
  obtain ⟨⟨k, wk⟩, _⟩ := h.dist_is hv hb (by omega)
  have w2 := Wk.cons ha he wk
  have g0 := (h.dist_ge_iff ha hb).2 ⟨_, _, w2⟩
  have := (h.dist_is ha hb g0).2 _ _ w2
  omega
theorem RV.cw_zero (h : RV n rs) {b : Nat} (hb : b < n) : ∀ (k : Nat) (L : Int) (a : Nat), a < n → (dist n rs b a < 0 ∨ L < dist n rs b a) → cw n (eN rs) k L a b = 0 := by
  intro k
  induction k with
  | zero =>
    intro L a _ hd
    rw [cw, if_neg]
    rintro ⟨rfl, rfl⟩
    rw [h.dist_self hb] at hd
    omega
  | succ k ih =>
    intro L a ha hd
    rw [cw]
    refine sumTo_zero n (fun v hv => ?_)
    by_cases c : 1 ≤ eN rs a v
    · rw [if_pos c]
      refine ih _ v hv ?_
      by_cases c0 : dist n rs b v < 0
      · exact .inl c0
      · have := h.dist_tri hb ha hv c (by omega)
        exact .inr (by omega)
    · rw [if_neg c]
theorem RV.manyN_cw (h : RV n rs) {b : Nat} (hb : b < n) : ∀ (f a : Nat), a < n → 0 ≤ dist n rs b a → manyN n rs b f a = sumTo (fun k => cw n (eN rs) k (dist n rs b a) a b) (f + 1) := by
  intro f
  induction f with
  | zero =>
    intro a ha h0
    rw [manyN, sumTo_first, cw]
    by_cases c : a = b
    · subst c
      rw [if_pos rfl, if_pos ⟨rfl, h.dist_self hb⟩]
      rfl
    · rw [if_neg c, if_neg (fun q => c q.1)]
      rfl
  | succ f ih =>
    intro a ha h0
    rw [manyN, sumTo_first]
    by_cases c : a = b
    · subst c
      rw [if_pos rfl, cw, if_pos ⟨rfl, h.dist_self hb⟩, sumTo_zero]
      · rfl
      intro k _
      rw [cw]
      refine sumTo_zero n (fun v hv => ?_)
      by_cases c : 1 ≤ eN rs a v
      · rw [if_pos c]
        refine h.cw_zero hb _ _ v hv ?_
        rw [h.dist_self hb]
        omega
      · rw [if_neg c]
    · rw [if_neg c, cw, if_neg (fun q => c q.1), Int.zero_add]
      have h1 : sumTo (fun i => cw n (eN rs) (i + 1) (dist n rs b a) a b) (f + 1) = sumTo (fun v => sumTo (fun k => if 1 ≤ eN rs a v then cw n (eN rs) k (dist n rs b a - eN rs a v) v b else 0) (f + 1)) n := by
        rw [sumTo_swap (fun v k => if 1 ≤ eN rs a v then cw n (eN rs) k (dist n rs b a - eN rs a v) v b else 0)]
        exact sumTo_congr _ (fun k _ => by rw [cw])
      rw [h1]
      unfold nxs
      rw [← sumL_filter]
      refine sumTo_congr n (fun v hv => ?_)
      rw [sumTo_if]
      by_cases c1 : 1 ≤ eN rs a v
      · rw [if_pos c1]
        by_cases c2 : eN rs a v + dist n rs b v = dist n rs b a
        · have hx := nx_iff.2 ⟨c1, c2⟩
          obtain ⟨_, g1, _⟩ := h.nx_less hb ha h0 hx
          rw [if_pos hx, ih v hv g1, show dist n rs b a - eN rs a v = dist n rs b v by omega]
        · rw [if_neg (fun q => c2 (nx_iff.1 q).2)]
          refine (sumTo_zero _ (fun k _ => h.cw_zero hb _ _ v hv ?_)).symm
          by_cases c0 : dist n rs b v < 0
          · exact .inl c0
          · have := h.dist_tri hb ha hv c1 (by omega)
            exact .inr (by omega)
      · rw [if_neg c1, if_neg (fun q => c1 (nx_iff.1 q).1)]
/-- as many ways there as back -/
theorem RV.many_symm (h : RV n rs) {a b : Nat} (ha : a < n) (hb : b < n) (h0 : 0 ≤ dist n rs b a) : many n rs b a = many n rs a b := by
  have hc := h.dist_comm ha hb
  unfold many
  rw [h.manyN_cw hb 8 a ha h0, h.manyN_cw ha 8 b hb (by omega), hc]
  exact sumTo_congr _ (fun k _ => cw_symm (eN_comm rs) k _ a b ha hb)
/-- one second town's part -/
def manyPart (n : Nat) (rs : List (Int × Int × Int)) (a b : Nat) (v : Nat) : Int := if nx n rs b a v = true then many n rs b v else 0
theorem RV.many_parts (h : RV n rs) {a b : Nat} (ha : a < n) (hb : b < n) (h0 : 0 ≤ dist n rs b a) (hab : a ≠ b) : sumTo (manyPart n rs a b) n = many n rs b a := by
  rw [h.many_eq hb ha h0 hab]
  unfold nxs
  rw [← sumL_filter]
  rfl
/-- what the law asks of a second town -/
theorem RV.nx_ask (h : RV n rs) {a b v : Nat} (ha : a < n) (hb : b < n) (hv : v < n) (h0 : 0 ≤ dist n rs b a) : nx n rs b a v = true ↔ 0 ≤ direct n rs a v ∧ 0 ≤ roadsFar n rs v b ∧ direct n rs a v + roadsFar n rs v b = roadsFar n rs a b := by
  have hv' := roadsValid_of h
  have hd : direct n rs a v = eN rs a v := by rw [direct, if_pos hv']; rfl
  rw [hd, roadsFar_in hv' hv hb, roadsFar_in hv' ha hb, h.dist_comm hv hb, h.dist_comm ha hb]
  constructor
  · intro hx
    obtain ⟨g1, g2⟩ := nx_iff.1 hx
    obtain ⟨_, g3, _⟩ := h.nx_less hb ha h0 hx
    exact ⟨by omega, g3, g2⟩
  · rintro ⟨g1, g2, g3⟩
    exact nx_iff.2 ⟨(h.edge_pos (show 0 ≤ edge rs a v from g1)).1, g3⟩
theorem RV.part_in (h : RV n rs) {a b : Nat} (ha : a < n) (hb : b < n) (h0 : 0 ≤ dist n rs b a) (v : Nat) : 0 ≤ manyPart n rs a b v ∧ manyPart n rs a b v ≤ 2097152 := by
  unfold manyPart
  by_cases c : nx n rs b a v = true
  · rw [if_pos c]
    obtain ⟨g1, g2, _⟩ := h.nx_less hb ha h0 c
    have := h.many_in hb g1 g2
    omega
  · rw [if_neg c]; omega
theorem RV.parts_in (h : RV n rs) {a b : Nat} (ha : a < n) (hb : b < n) (h0 : 0 ≤ dist n rs b a) (k : Nat) : 0 ≤ sumTo (manyPart n rs a b) k ∧ sumTo (manyPart n rs a b) k ≤ 2097152 * k := by
  induction k with
  | zero => simp [sumTo]
  | succ k ih =>
    have := h.part_in ha hb h0 k
    rw [sumTo]
    push_cast
    omega
end
end Go.Proofs.Ytdnjeahbnidefaa

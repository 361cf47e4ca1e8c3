/- Memory and plain laws around distances: what a heap step leaves, which towns are reached. -/
import Derived.Test.YtdnjeahbnidefaaGH
import Derived.Test.YtdnjeahbnidefaaRo2
import Derived.Test.YtdnjeahbnidefaaGA
namespace Go.Proofs.Ytdnjeahbnidefaa
open Go.RowKit

section
variable {w w' : World} {h base g n c g' : Nat} {xs : List (Int × Int)}
theorem IM.block {b N s : Nat} {f : Int → Int} (hi : IM w b f N s) (e : w'.heap[b]? = w.heap[b]?) : IM w' b f N s := by
  obtain ⟨D, ⟨es, cl, h1, h2⟩, h3⟩ := hi
  exact ⟨D, ⟨es, cl, e.trans h1, h2⟩, h3⟩
theorem OM.block {b m : Nat} {gm : Nat → Nat} (hi : OM w b m gm) (e : w'.heap[b]? = w.heap[b]?) : OM w' b m gm := by
  obtain ⟨D, ⟨es, cl, h1, h2⟩, h3⟩ := hi
  exact ⟨D, ⟨es, cl, e.trans h1, h2⟩, h3⟩
theorem IM.isMap {b N s : Nat} {f : Int → Int} (hi : IM w b f N s) : ∃ es cl, w.heap[b]? = some (.map es cl) := by
  obtain ⟨D, ⟨es, cl, h1, h2⟩, h3⟩ := hi
  exact ⟨es, cl, h1⟩
theorem OM.isMap {b m : Nat} {gm : Nat → Nat} (hi : OM w b m gm) : ∃ es cl, w.heap[b]? = some (.map es cl) := by
  obtain ⟨D, ⟨es, cl, h1, h2⟩, h3⟩ := hi
  exact ⟨es, cl, h1⟩
theorem HP.towns {h : Nat} (hp : HP w h base g n c xs) : ∃ cur, w.heap[g]? = some (.cells cur 82) := by
  obtain ⟨_, _, h3⟩ := hp
  rcases h3.2 with ⟨hv, _⟩ | ⟨g', c', cur, hv, _, hh, _⟩
  · cases hv
  · simp only [Value.slice.injEq, Option.some.injEq, Addr.mk.injEq] at hv
    rw [← hv.1.1] at hh
    exact ⟨cur, hh⟩
/-- what is no row of cells stays -/
theorem HStep.stay (hs : HStep w w' h g g') (hp : HP w h base g n c xs) {k : Nat} {o : Obj} (hk : w.heap[k]? = some o) (ho : ∀ cs t, o ≠ .cells cs t) : w'.heap[k]? = w.heap[k]? := by
  refine hs.2.2.1 k (Array.getElem?_eq_some_iff.1 hk).1 (fun e => ?_) (fun e => ?_)
  · subst e
    rw [hp.1] at hk
    exact ho _ _ (Option.some.inj hk).symm
  · subst e
    obtain ⟨cur, hc⟩ := hp.towns
    rw [hc] at hk
    exact ho _ _ (Option.some.inj hk).symm
theorem IM.hstep {b N s : Nat} {f : Int → Int} (hi : IM w b f N s) (hp : HP w h base g n c xs) (hs : HStep w w' h g g') : IM w' b f N s := by
  obtain ⟨es, cl, hb⟩ := hi.isMap
  exact hi.block (hs.stay hp hb (fun _ _ e => by cases e))
theorem OM.hstep {b m : Nat} {gm : Nat → Nat} (hi : OM w b m gm) (hp : HP w h base g n c xs) (hs : HStep w w' h g g') : OM w' b m gm := by
  obtain ⟨es, cl, hb⟩ := hi.isMap
  exact hi.block (hs.stay hp hb (fun _ _ e => by cases e))
theorem RMap.hstep {b m N base' : Nat} {e : Int → Int → Int} {gm : Nat → Nat} (hi : RMap w base' b m e N gm) (hp : HP w h base g n c xs) (hs : HStep w w' h g g') : RMap w' base' b m e N gm :=
  ⟨hi.om.hstep hp hs, fun t ht => by obtain ⟨s, h1⟩ := hi.im t ht; exact ⟨s, h1.hstep hp hs⟩, hi.inj, hi.off, hi.base⟩
theorem RG.hstep {b r cnt : Nat} {f : Int → Int} {left : Int → Bool} (hi : RG w b r f left cnt) (hp : HP w h base g n c xs) (hs : HStep w w' h g g') : RG w' b r f left cnt := by
  obtain ⟨N, D, L, ⟨es, cl, since, seen, c0, h1, h2, h3, h4, h5, h6⟩, h7⟩ := hi
  exact ⟨N, D, L, ⟨es, cl, since, seen, c0, (hs.stay hp h1 (fun _ _ e => by cases e)).trans h1, h2, h3, h4, (hs.stay hp h5 (fun _ _ e => by cases e)).trans h5, h6⟩, h7⟩
/-- a box apart from the heap stays -/
theorem HStep.box (hs : HStep w w' h g g') {k : Nat} {o : Obj} (hk : w.heap[k]? = some o) (h1 : k ≠ h) (h2 : k ≠ g) : w'.heap[k]? = some o := (hs.2.2.1 k (Array.getElem?_eq_some_iff.1 hk).1 h1 h2).trans hk
/-- a map is written: the heap stays -/
theorem HP.mapped (hp : HP w h base g n c xs) {b : Nat} {es : Array MapEntry} {cl : Nat} (hb : w.heap[b]? = some (.map es cl)) (hg : w.grownBy w' (some b)) : HP w' h base g n c xs :=
  hp.kept hg (fun e => by
    have e1 := Option.some.inj e
    subst e1
    rw [hp.1] at hb
    cases hb) (fun e => by
    have e1 := Option.some.inj e
    subst e1
    obtain ⟨cur, hc⟩ := hp.towns
    rw [hc] at hb
    cases hb)
end
/-- a function of towns as a function of keys -/
def fI (F : Nat → Int) : Int → Int := fun k => if 0 ≤ k then F k.toNat else -1
theorem fI_nat (F : Nat → Int) (t : Nat) : fI F (t : Int) = F t := by unfold fI; rw [if_pos (by omega), Int.toNat_natCast]
theorem fI_upd (F : Nat → Int) (t : Nat) (d : Int) : ∀ k, updI (fI F) (t : Int) d k = fI (upd F t d) k := fun k => by
  by_cases e : k = (t : Int)
  · subst e; rw [updI_same, fI_nat, upd_same]
  · rw [updI_ne _ _ e]
    unfold fI
    by_cases c : 0 ≤ k
    · rw [if_pos c, if_pos c, upd_ne _ _ (by omega)]
    · rw [if_neg c, if_neg c]
/-- how many towns are reached -/
def got (n : Nat) (F : Nat → Int) : Nat := cnt (fun t => decide (0 ≤ F t)) n
theorem got_le (n : Nat) (F : Nat → Int) : got n F ≤ n := cnt_le _ _
theorem cnt_eq {S T : Nat → Bool} : ∀ m, (∀ i, i < m → S i = T i) → cnt S m = cnt T m := by
  intro m
  induction m with
  | zero => intro _; rfl
  | succ m ih => intro h; rw [cnt, cnt, ih (fun i hi => h i (by omega)), h m (by omega)]
theorem got_upd {n : Nat} {F : Nat → Int} {t : Nat} {d : Int} (ht : t < n) (hF : F t < 0) (hd : 0 ≤ d) : got n (upd F t d) = got n F + 1 := by
  have h1 : (fun i => decide (0 ≤ upd F t d i)) t = true := by show decide _ = true; rw [upd_same, decide_eq_true hd]
  have h2 := cnt_less (fun i => decide (0 ≤ upd F t d i)) t h1 n ht
  have h3 : cnt (less (fun i => decide (0 ≤ upd F t d i)) t) n = got n F := cnt_eq n (fun i hi => by
    unfold less
    by_cases e : i = t
    · subst e
      rw [decide_eq_true rfl, decide_eq_false (show ¬ 0 ≤ F i by omega)]; simp
    · rw [decide_eq_false e]
      show (decide (0 ≤ upd F t d i) && !false) = decide (0 ≤ F i)
      rw [upd_ne _ _ e]; simp)
  unfold got at *
  omega
/-- the distances from a town, by key -/
def farF (n : Nat) (rs : List (Int × Int × Int)) (s : Nat) : Int → Int := fun k => if 0 ≤ k ∧ k < n then dist n rs s k.toNat else -1
def reach (n : Nat) (rs : List (Int × Int × Int)) (s : Nat) : Nat := got n (fun t => dist n rs s t)
theorem farF_in {n : Nat} (rs : List (Int × Int × Int)) (s : Nat) {t : Nat} (ht : t < n) : farF n rs s t = dist n rs s t := by unfold farF; rw [if_pos (by omega), Int.toNat_natCast]
/-- when the heap is empty the reached towns have their distances, the others none -/
theorem RV.far_last {n s : Nat} {rs : List (Int × Int × Int)} (h : RV n rs) (hs : s < n) {F : Nat → Int} (hd : Dij (eN rs) n s F []) (hm : ∀ t, F t < 0 → F t = -1) : (∀ k, fI F k = farF n rs s k) ∧ got n F = reach n rs s := by
  have key : ∀ t, t < n → F t = dist n rs s t := fun t ht => by
    by_cases c : 0 ≤ F t
    · have h1 := hd.fin t c
      rcases h.dist_at hs ht with ⟨_, g2⟩ | ⟨_, _, g2⟩
      · obtain ⟨⟨k, wk⟩, _⟩ := h1
        exact absurd wk (g2 _ _)
      · exact h1.unique g2
    · have h1 := hd.last (t := t) (by omega)
      rw [hm t (by omega)]
      rcases h.dist_at hs ht with ⟨g1, _⟩ | ⟨_, _, g2⟩
      · exact g1.symm
      · obtain ⟨⟨k, wk⟩, _⟩ := g2
        exact absurd wk (h1 _ _)
  refine ⟨fun k => ?_, cnt_eq n (fun t ht => by rw [key t ht])⟩
  unfold farF fI
  by_cases c : 0 ≤ k
  · rw [if_pos c]
    by_cases d : k < n
    · rw [if_pos ⟨c, d⟩]
      exact key _ (by omega)
    · rw [if_neg (fun h => d h.2)]
      refine hm _ (Int.not_le.1 fun h1 => ?_)
      obtain ⟨⟨_, wk⟩, _⟩ := hd.fin _ h1
      have := wk.lt_r
      omega
  · rw [if_neg c, if_neg (fun h => c h.1)]
/-- the distances of reached towns are small -/
theorem RV.isD_small {n s t : Nat} {rs : List (Int × Int × Int)} (h : RV n rs) {d : Int} (hd : IsD (eN rs) n s t d) : 0 ≤ d ∧ d ≤ 800 := by
  have h1 := hd.le h.eN_le
  have h2 := h.n8
  have h3 := hd.ge
  omega
end Go.Proofs.Ytdnjeahbnidefaa

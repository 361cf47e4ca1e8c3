/- What holds on the way of distances: a town is passed by, is taken, its neighbors are seen. -/
import Derived.Test.YtdnjeahbnidefaaRoD1
namespace Go.Proofs.Ytdnjeahbnidefaa
open Go.RowKit

/-- what holds when a town is to be taken from the heap -/
structure DInv (w0 wr : World) (fb h base b n s : Nat) (rs : List (Int × Int × Int)) (gm : Nat → Nat) (base0 : Nat) (F : Nat → Int) (H : List (Int × Int)) (g c L : Nat) : Prop where
  dij : Dij (eN rs) n s F H
  neg : ∀ t, F t < 0 → F t = -1
  hp : HP wr h base g L c H
  hh : HeapN snd2 H L
  im : IM wr fb (fI F) (got n F) (got n F)
  rm : RMap wr base0 b n (edge rs) 64 gm
  lo : L ≤ 1 + 64 * got n F
  bel : Below w0.heap.size w0 wr
  hb : w0.heap.size ≤ h ∧ w0.heap.size ≤ base ∧ w0.heap.size ≤ fb
  ne : fb ≠ b ∧ ∀ t, t < n → fb ≠ gm t
/-- what holds while a town's neighbors are seen -/
structure EInv (w0 wr : World) (fb h base b n s : Nat) (rs : List (Int × Int × Int)) (gm : Nat → Nat) (base0 : Nat) (F : Nat → Int) (t : Nat) (bx r : Nat) (left : Int → Bool) (cnt bound : Nat) (H : List (Int × Int)) (g c L : Nat) : Prop where
  dij : DijN (eN rs) n s F H (fun a u => a = t ∧ left (u : Int) = true)
  neg : ∀ t, F t < 0 → F t = -1
  tn : t < n ∧ 0 ≤ F t
  hp : HP wr h base g L c H
  hh : HeapN snd2 H L
  im : IM wr fb (fI F) (got n F) (got n F)
  rm : RMap wr base0 b n (edge rs) 64 gm
  rg : RG wr (gm t) r (edge rs t) left cnt
  box : wr.heap[bx]? = some (.cells #[.int .i64 t, .int .i64 (F t)] 82)
  nbox : bx ≠ h ∧ bx ≠ g
  lo : L + cnt ≤ bound
  bel : Below w0.heap.size w0 wr
  hb : w0.heap.size ≤ h ∧ w0.heap.size ≤ base ∧ w0.heap.size ≤ fb
  hr : w0.heap.size ≤ r
  ne : fb ≠ b ∧ ∀ t, t < n → fb ≠ gm t
theorem HP.alloc {w : World} {h base g n c : Nat} {xs : List (Int × Int)} (hp : HP w h base g n c xs) (o : Obj) : HP (w.alloc o) h base g n c xs := hp.kept (World.grownBy_alloc w o none) (by simp) (by simp)
theorem RG.isIter {w : World} {b r cnt : Nat} {f : Int → Int} {left : Int → Bool} (hi : RG w b r f left cnt) : ∃ a b c d, w.heap[r]? = some (.mapIter a b c d) := by
  obtain ⟨N, D, L, ⟨es, cl, since, seen, c0, h1, h2, h3, h4, h5, h6⟩, h7⟩ := hi
  exact ⟨_, _, _, _, h5⟩
/-- a turn of the iterator leaves the heap and the maps -/
theorem HP.iter {w w' : World} {h base g n c b r cnt : Nat} {xs : List (Int × Int)} {f : Int → Int} {left : Int → Bool} (hp : HP w h base g n c xs) (hi : RG w b r f left cnt) (hg : w.grownBy w' (some r)) : HP w' h base g n c xs := by
  obtain ⟨a, b', c', d, hr⟩ := hi.isIter
  exact hp.kept hg (fun e => by
    have e1 := Option.some.inj e
    subst e1
    rw [hp.1] at hr
    cases hr) (fun e => by
    have e1 := Option.some.inj e
    subst e1
    obtain ⟨cur, hc⟩ := hp.towns
    rw [hc] at hr
    cases hr)
theorem IM.iter {w w' : World} {b r cnt k N s : Nat} {f f' : Int → Int} {left : Int → Bool} (hm : IM w k f' N s) (hi : RG w b r f left cnt) (hg : w.grownBy w' (some r)) : IM w' k f' N s := by
  obtain ⟨a, b', c', d, hr⟩ := hi.isIter
  obtain ⟨es, cl, hk⟩ := hm.isMap
  exact hm.kept hg (fun e => by
    have e1 := Option.some.inj e
    subst e1
    rw [hk] at hr
    cases hr)
theorem OM.iter {w w' : World} {b r cnt k m : Nat} {f : Int → Int} {left : Int → Bool} {gm : Nat → Nat} (hm : OM w k m gm) (hi : RG w b r f left cnt) (hg : w.grownBy w' (some r)) : OM w' k m gm := by
  obtain ⟨a, b', c', d, hr⟩ := hi.isIter
  obtain ⟨es, cl, hk⟩ := hm.isMap
  exact hm.kept hg (fun e => by
    have e1 := Option.some.inj e
    subst e1
    rw [hk] at hr
    cases hr)
theorem RMap.iter {w w' : World} {b r cnt k m N base : Nat} {f : Int → Int} {left : Int → Bool} {gm : Nat → Nat} {e : Int → Int → Int} (hm : RMap w base k m e N gm) (hi : RG w b r f left cnt) (hg : w.grownBy w' (some r)) : RMap w' base k m e N gm :=
  ⟨hm.om.iter hi hg, fun t ht => by obtain ⟨s, h1⟩ := hm.im t ht; exact ⟨s, h1.iter hi hg⟩, hm.inj, hm.off, hm.base⟩
theorem box_iter {w w' : World} {b r cnt k : Nat} {f : Int → Int} {left : Int → Bool} {cs : Array Value} {ty : TypeId} (hk : w.heap[k]? = some (.cells cs ty)) (hi : RG w b r f left cnt) (hg : w.grownBy w' (some r)) : w'.heap[k]? = some (.cells cs ty) := by
  obtain ⟨a, b', c', d, hr⟩ := hi.isIter
  exact (hg.block k (Array.getElem?_eq_some_iff.1 hk).1 (fun e => by
    have e1 := Option.some.inj e
    subst e1
    rw [hk] at hr
    cases hr)).trans hk
section
variable {w0 wr w1 : World} {fb h base b n s : Nat} {rs : List (Int × Int × Int)} {gm : Nat → Nat} {base0 : Nat} {F : Nat → Int} {H : List (Int × Int)} {g c L : Nat}
/-- a town that is reached already -/
theorem DInv.pass (hi : DInv w0 wr fb h base b n s rs gm base0 F H g c (L + 1)) {z : Int × Int} {ys : List (Int × Int)} {t : Nat} {o : Obj} (hp1 : HP w1 h base g L c ys) (hh1 : HeapN snd2 ys L) (hmem : ∀ u, u ∈ H ↔ u = z ∨ u ∈ ys) (hs1 : HStep wr w1 h g g) (hz : z.1 = t) (hF : 0 ≤ F t) :
    DInv w0 (w1.alloc o) fb h base b n s rs gm base0 F ys g c L :=
  have hb1 := hs1.below hi.bel hi.hb.1 (Nat.le_trans hi.hb.2.1 hi.hp.base.1)
  ⟨hi.dij.pass hmem hz hF, hi.neg, hp1.alloc o, hh1, (hi.im.hstep hi.hp hs1).alloc o, (hi.rm.hstep hi.hp hs1).alloc o, by have := hi.lo; omega, hb1.alloc hb1.size o, hi.hb, hi.ne⟩
/-- a new town, its distance stored, its neighbors to come -/
theorem DInv.take (_hv : RV n rs) (hi : DInv w0 wr fb h base b n s rs gm base0 F H g c (L + 1)) {z : Int × Int} {ys : List (Int × Int)} {t st : Nat} (hp1 : HP w1 h base g L c ys) (hh1 : HeapN snd2 ys L) (hmem : ∀ u, u ∈ H ↔ u = z ∨ u ∈ ys) (hleast : ∀ u, u ∈ H → z.2 ≤ u.2) (hs1 : HStep wr w1 h g g) (hz : z.1 = t) (htn : t < n) (hF : F t < 0)
    {w2 w3 : World} (hi2 : IM w2 fb (updI (fI F) t z.2) (got n F + 1) (if 0 ≤ fI F t then got n F else got n F + 1)) (hg2 : (w1.alloc (.cells #[.int .i64 t, .int .i64 z.2] 82)).grownBy w2 (some fb)) {r : Nat} (hr : r = w2.heap.size)
    (hrg : RG w3 (gm t) r (edge rs t) (fun k => decide (0 ≤ edge rs t k)) st) (hg3 : w2.grownBy w3 none) (hst : st ≤ 64) :
    EInv w0 w3 fb h base b n s rs gm base0 (upd F t z.2) t w1.heap.size r (fun k => decide (0 ≤ edge rs t k)) st (L + 64) ys g c L := by
  have hb1 := hs1.below hi.bel hi.hb.1 (Nat.le_trans hi.hb.2.1 hi.hp.base.1)
  have hD := hi.dij.least ((hmem z).2 (.inl rfl)) hleast hz hF
  have hgot := got_upd (d := z.2) htn hF hD.ge
  have hbA := hb1.alloc hb1.size (.cells #[.int .i64 t, .int .i64 z.2] 82)
  have hsA : w0.heap.size ≤ (w1.alloc (.cells #[.int .i64 t, .int .i64 z.2] 82)).heap.size := by have := hb1.size; simp; omega
  have hb2 := hbA.grown hg2 hsA (fun k e => by cases e; exact hi.hb.2.2)
  have hb3 := hb2.grown hg3 hb2.size (fun k e => by cases e)
  obtain ⟨es, cl, hfm⟩ := ((hi.im.hstep hi.hp hs1).alloc (.cells #[.int .i64 t, .int .i64 z.2] 82)).isMap
  have hp2 := (hp1.alloc (.cells #[.int .i64 t, .int .i64 z.2] 82)).mapped hfm hg2
  have hp3 := hp2.kept hg3 (by simp) (by simp)
  have hbox1 : (w1.alloc (.cells #[.int .i64 t, .int .i64 z.2] 82)).heap[w1.heap.size]? = some (.cells #[.int .i64 t, .int .i64 z.2] 82) := heap_alloc_new w1 _
  have hbox2 := (hg2.block w1.heap.size (by simp) (fun e => by
    have e1 := Option.some.inj e
    rw [← e1, hbox1] at hfm
    cases hfm)).trans hbox1
  have hbox3 := (hg3.block w1.heap.size (Array.getElem?_eq_some_iff.1 hbox2).1 (by simp)).trans hbox2
  have hrm1 := (hi.rm.hstep hi.hp hs1).alloc (.cells #[.int .i64 t, .int .i64 z.2] 82)
  have hrm2 : RMap w2 base0 b n (edge rs) 64 gm := ⟨hrm1.om.kept hg2 (fun e => hi.ne.1 (Option.some.inj e).symm), fun u hu => by
    obtain ⟨s', h1⟩ := hrm1.im u hu
    exact ⟨s', h1.kept hg2 (fun e => hi.ne.2 u hu (Option.some.inj e).symm)⟩, hrm1.inj, hrm1.off, hrm1.base⟩
  have hrm3 : RMap w3 base0 b n (edge rs) 64 gm := ⟨hrm2.om.kept hg3 (by simp), fun u hu => by
    obtain ⟨s', h1⟩ := hrm2.im u hu
    exact ⟨s', h1.kept hg3 (by simp)⟩, hrm2.inj, hrm2.off, hrm2.base⟩
  have him3 : IM w3 fb (fI (upd F t z.2)) (got n (upd F t z.2)) (got n (upd F t z.2)) := by
    rw [hgot]
    have := (hi2.kept hg3 (by simp)).congr (fI_upd F t z.2)
    rw [fI_nat, if_neg (by omega)] at this
    exact this
  have hlo := hi.lo
  refine ⟨(hi.dij.take hmem hleast hz hF).mono (fun a u he ha => ?_), fun u hu => ?_, ⟨htn, by rw [upd_same]; exact hD.ge⟩, hp3, hh1, him3, hrm3, hrg, by rw [upd_same]; exact hbox3, ⟨?_, ?_⟩, by omega, hb3, hi.hb, by rw [hr]; exact hb2.size, hi.ne⟩
  · subst ha
    refine ⟨rfl, decide_eq_true ?_⟩
    have : 1 ≤ edge rs a u := he
    omega
  · by_cases e : u = t
    · subst e
      rw [upd_same] at hu
      have := hD.ge
      omega
    · rw [upd_ne _ _ e] at hu ⊢
      exact hi.neg u hu
  · have := hp1.lt; omega
  · have := hp1.base.2; omega
/-- a neighbor that is reached -/
theorem EInv.seen {t box r cnt cnt' bound : Nat} {left : Int → Bool} {x : Int} (hv : RV n rs) (hi : EInv w0 wr fb h base b n s rs gm base0 F t box r left cnt bound H g c L) (hfx : 0 ≤ edge rs t x) (hF : 0 ≤ F x.toNat)
    (hrg : RG w1 (gm t) r (edge rs t) (fun z => left z && !decide (z = x)) cnt') (hlt : cnt' < cnt) (hg : wr.grownBy w1 (some r)) (hb : Below w0.heap.size w0 w1) : EInv w0 w1 fb h base b n s rs gm base0 F t box r (fun z => left z && !decide (z = x)) cnt' bound H g c L := by
  obtain ⟨_, _, _, _, x0, _⟩ := hv.edge_pos hfx
  refine ⟨(hi.dij.pass (t := t) hF).mono (fun a u _ ha => ?_), hi.neg, hi.tn, hi.hp.iter hi.rg hg, hi.hh, hi.im.iter hi.rg hg, hi.rm.iter hi.rg hg, hrg, box_iter hi.box hi.rg hg, hi.nbox, by have := hi.lo; omega, hb, hi.hb, hi.hr, hi.ne⟩
  obtain ⟨⟨h1, h2⟩, h3⟩ := ha
  refine ⟨h1, ?_⟩
  rw [h2, decide_eq_false (fun e => h3 ⟨h1, by omega⟩)]
  rfl
/-- a neighbor that is laid into the heap -/
theorem EInv.push {w2 : World} {t box r cnt cnt' bound g' c' : Nat} {left : Int → Bool} {x : Int} {ys : List (Int × Int)} (hv : RV n rs) (hi : EInv w0 wr fb h base b n s rs gm base0 F t box r left cnt bound H g c L) (hfx : 0 ≤ edge rs t x)
    (hrg : RG w1 (gm t) r (edge rs t) (fun z => left z && !decide (z = x)) cnt') (hlt : cnt' < cnt) (hg : wr.grownBy w1 (some r)) (hb : Below w0.heap.size w0 w1)
    (hp2 : HP w2 h base g' (L + 1) c' ys) (hh2 : HeapN snd2 ys (L + 1)) (hmem : ∀ u, u ∈ ys ↔ u = (x, F t + edge rs t x) ∨ u ∈ H) (hs : HStep w1 w2 h g g') : EInv w0 w2 fb h base b n s rs gm base0 F t box r (fun z => left z && !decide (z = x)) cnt' bound ys g' c' (L + 1) := by
  obtain ⟨he1, _, _, _, x0, xn, _⟩ := hv.edge_pos hfx
  obtain ⟨xv, rfl⟩ := Int.eq_ofNat_of_zero_le x0
  have hp1 := hi.hp.iter hi.rg hg
  have hbox1 := box_iter hi.box hi.rg hg
  have hboxlt := (Array.getElem?_eq_some_iff.1 hbox1).1
  refine ⟨(hi.dij.push (v := xv) hi.tn.2 he1 (by omega) hmem).mono (fun a u _ ha => ?_), hi.neg, hi.tn, hp2, hh2, (hi.im.iter hi.rg hg).hstep hp1 hs, (hi.rm.iter hi.rg hg).hstep hp1 hs, hrg.hstep hp1 hs, hs.box hbox1 hi.nbox.1 hi.nbox.2, ⟨hi.nbox.1, ?_⟩, by have := hi.lo; omega, hs.below hb hi.hb.1 (Nat.le_trans hi.hb.2.1 hp1.base.1), hi.hb, hi.hr, hi.ne⟩
  · obtain ⟨⟨h1, h2⟩, h3⟩ := ha
    refine ⟨h1, ?_⟩
    rw [h2, decide_eq_false (fun e => h3 ⟨h1, by omega⟩)]
    rfl
  · rcases hs.2.2.2 with e | e
    · rw [e]; exact hi.nbox.2
    · omega
/-- all neighbors are seen -/
theorem EInv.done {t box r bound : Nat} {left : Int → Bool} (hv : RV n rs) (hi : EInv w0 wr fb h base b n s rs gm base0 F t box r left 0 bound H g c L) (hl : ∀ k, IntOk k → left k = false) (hbd : bound ≤ 1 + 64 * got n F) : DInv w0 wr fb h base b n s rs gm base0 F H g c L :=
  ⟨hi.dij.mono (fun a u he ha => by
    obtain ⟨_, _, _, _, u0, un, _⟩ := hv.edge_pos (show 0 ≤ edge rs (a : Int) (u : Int) from Int.le_trans (by omega) he)
    have h1 := hl (u : Int) (by unfold IntOk; have := hv.n8; omega)
    rw [ha.2] at h1
    cases h1), hi.neg, hi.hp, hi.hh, hi.im, hi.rm, by have := hi.lo; omega, hi.bel, hi.hb, hi.ne⟩
end
end Go.Proofs.Ytdnjeahbnidefaa

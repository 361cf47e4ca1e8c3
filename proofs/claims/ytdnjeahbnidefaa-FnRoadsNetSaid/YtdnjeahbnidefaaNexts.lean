/- Walks: nexts of the program. -/
import Derived.Test.YtdnjeahbnidefaaRoShort
import Derived.Test.YtdnjeahbnidefaaRoD2
import Derived.Test.YtdnjeahbnidefaaGA
import Derived.Test.YtdnjeahbnidefaaSort
import Derived.Test.YtdnjeahbnidefaaRo6
namespace Go.Proofs.Ytdnjeahbnidefaa
open Go.RowKit

theorem castL_asc {xs : List Nat} (h : xs.Pairwise (· < ·)) : AscTo (castL xs) (castL xs).length := fun i j hij hj => by
  rw [castL_at, castL_at]
  rw [castL_len] at hj
  have := (List.pairwise_iff_getElem.1 h) i j (by omega) hj hij
  rw [List.getD_eq_getElem?_getD, List.getD_eq_getElem?_getD, List.getElem?_eq_getElem (by omega), List.getElem?_eq_getElem hj]
  simp only [Option.getD_some]
  omega
theorem castL_nodup {xs : List Nat} (h : xs.Pairwise (· < ·)) : (castL xs).Nodup := by
  unfold castL List.Nodup
  rw [List.pairwise_map]
  exact h.imp (fun hab => by omega)
theorem mem_castL {xs : List Nat} {x : Int} : x ∈ castL xs ↔ ∃ v, v ∈ xs ∧ x = (v : Int) := by
  unfold castL
  rw [List.mem_map]
  exact ⟨fun ⟨v, h1, h2⟩ => ⟨v, h1, h2.symm⟩, fun ⟨v, h1, h2⟩ => ⟨v, h1, h2.symm⟩⟩
/-- what has been collected -/
def NxIn (n : Nat) (rs : List (Int × Int × Int)) (t a : Nat) (left : Int → Bool) (ls : List Int) : Prop := ls.Nodup ∧ ∀ x : Int, x ∈ ls ↔ 0 ≤ edge rs a x ∧ left x = false ∧ nx n rs t a x.toNat = true
section
variable {n t a : Nat} {rs : List (Int × Int × Int)} {left : Int → Bool} {ls : List Int} {x : Int}
theorem NxIn.start : NxIn n rs t a (fun k => decide (0 ≤ edge rs a k)) [] := ⟨List.nodup_nil, fun x => ⟨fun h => (by cases h), fun ⟨h1, h2, _⟩ => (by have h4 : decide (0 ≤ edge rs a x) = false := h2; rw [decide_eq_true h1] at h4; cases h4)⟩⟩
theorem NxIn.skip (h : NxIn n rs t a left ls) (hx : nx n rs t a x.toNat = false) : NxIn n rs t a (fun z => left z && !decide (z = x)) ls := ⟨h.1, fun z => by
  rw [h.2 z]
  constructor
  · rintro ⟨h1, h2, h3⟩
    exact ⟨h1, by simp only [h2, Bool.false_and], h3⟩
  · rintro ⟨h1, h2, h3⟩
    refine ⟨h1, ?_, h3⟩
    by_cases e : z = x
    · subst e; rw [hx] at h3; cases h3
    · have h4 : (left z && !decide (z = x)) = false := h2
      rw [decide_eq_false e] at h4; simpa using h4⟩
theorem NxIn.take (h : NxIn n rs t a left ls) (hl : left x = true) (he : 0 ≤ edge rs a x) (hx : nx n rs t a x.toNat = true) : NxIn n rs t a (fun z => left z && !decide (z = x)) (ls ++ [x]) := by
  refine ⟨?_, fun z => ?_⟩
  · rw [List.nodup_append]
    refine ⟨h.1, by simp, fun y hy z hz => ?_⟩
    rw [List.mem_singleton] at hz
    subst hz
    intro e
    subst e
    have := ((h.2 y).1 hy).2.1
    rw [hl] at this
    cases this
  · rw [List.mem_append, List.mem_singleton, h.2 z]
    constructor
    · rintro (⟨h1, h2, h3⟩ | e)
      · exact ⟨h1, by simp only [h2, Bool.false_and], h3⟩
      · subst e; exact ⟨he, by simp, hx⟩
    · rintro ⟨h1, h2, h3⟩
      by_cases e : z = x
      · exact .inr e
      · have h4 : (left z && !decide (z = x)) = false := h2
        rw [decide_eq_false e] at h4
        exact .inl ⟨h1, by simpa using h4, h3⟩
theorem NxIn.done (hv : RV n rs) (h : NxIn n rs t a left ls) (hl : ∀ k, IntOk k → left k = false) : ls.Perm (castL (nxs n rs t a)) := by
  rw [List.perm_ext_iff_of_nodup h.1 (castL_nodup (nxs_asc n rs t a))]
  intro x
  rw [h.2 x, mem_castL]
  constructor
  · rintro ⟨h1, _, h3⟩
    obtain ⟨_, _, _, _, x0, xn, _⟩ := hv.edge_pos h1
    exact ⟨x.toNat, mem_nxs.2 ⟨by omega, h3⟩, by omega⟩
  · rintro ⟨v, h1, rfl⟩
    obtain ⟨h2, h3⟩ := mem_nxs.1 h1
    have h4 := (nx_iff.1 h3).1
    have h8 := hv.n8
    refine ⟨by unfold eN at h4; omega, hl _ (by unfold IntOk; omega), by rw [Int.toNat_natCast]; exact h3⟩
end

/-- an iterator and a row of cells lie apart -/
theorem iter_row {w : World} {b r cnt base t size n : Nat} {f : Int → Int} {left : Int → Bool} {v : Value} {xs : List Value} (hi : RG w b r f left cnt) (ho : w.ownsRow base t size v n xs) : v.ownBlock ≠ some r := fun e => by
  obtain ⟨x1, x2, x3, x4, hx⟩ := hi.isIter
  rcases ho.2 with ⟨rfl, _⟩ | ⟨g, cap, cur, rfl, _, hg, _⟩
  · cases e
  · have : g = r := Option.some.inj e
    subst this
    rw [hx] at hg
    cases hg
theorem RG.row {w w' : World} {b r cnt base t size n : Nat} {f : Int → Int} {left : Int → Bool} {v : Value} {xs : List Value} (hi : RG w b r f left cnt) (ho : w.ownsRow base t size v n xs) (hb : b < base) (hg : w.grownBy w' v.ownBlock) : RG w' b r f left cnt :=
  hi.kept hg (fun e => by have := (ho.lt _ e.symm).1; omega) (fun e => iter_row hi ho e.symm)
theorem own_iter {w w' : World} {b r cnt base t size n : Nat} {f : Int → Int} {left : Int → Bool} {v : Value} {xs : List Value} (ho : w.ownsRow base t size v n xs) (hi : RG w b r f left cnt) (hg : w.grownBy w' (some r)) : w'.ownsRow base t size v n xs :=
  ho.kept hg (.inr (iter_row hi ho))

set_option maxRecDepth 100000 in
set_option maxHeartbeats 4000000 in
theorem nexts_any (w : World) (base bm n fb t a s : Nat) (rs : List (Int × Int × Int)) (gm : Nat → Nat) (hv : RV n rs) (ht : t < n) (ha : a < n) (h0 : 0 ≤ dist n rs t a) (hm : RMap w base bm n (edge rs) 64 gm) (hi : IM w fb (farF n rs t) 64 s) :
    Calls Try.prog 48 #[.map (some bm), .map (some fb), .int .i64 a] w (RetS w 3 1 (nxs n rs t a).length (fl1 (castL (nxs n rs t a)))) := by
  obtain ⟨i0, hi0, hz0, hz1, hz2⟩ := info_parts info_intF
  have n8 := hv.n8
  have Hv : Hid (RV n rs) := hideIt hv
  have Hlen := hideIt (nxs_len n rs t a)
  have Hda := hideIt (farF_in rs t ha)
  obtain ⟨da, hda⟩ : ∃ d, dist n rs t a = d := ⟨_, rfl⟩
  have hd8 : da ≤ 800 := by rcases hv.dist_at ht ha with ⟨e, _⟩ | ⟨_, e, _⟩ <;> omega
  have Hdd := hideIt hda
  have Hfar : Hid (∀ v, v < n → farF n rs t v = dist n rs t v) := hideIt (fun v h => farF_in rs t h)
  have Hnx : Hid (∀ v : Nat, 1 ≤ edge rs a v → v < n ∧ 0 ≤ dist n rs t v ∧ dist n rs t v ≤ 800) := hideIt (fun v he => by
    obtain ⟨_, _, _, _, v0, vn, _⟩ := hv.edge_pos (show 0 ≤ edge rs a v by omega)
    have hvn : v < n := by omega
    have hc := ((hv.dist_ge_iff ht ha).1 h0).trans (Cn.one (e := eN rs) ha hvn he)
    have h1 := (hv.dist_ge_iff ht hvn).2 hc
    rcases hv.dist_at ht hvn with ⟨e, _⟩ | ⟨_, e, _⟩
    · omega
    · exact ⟨hvn, h1, e⟩)
  rw [hda] at h0
  have oka : IntOk (a : Int) := by unfold IntOk; omega
  have b0 : Below w.heap.size w (w.alloc (.cells #[] 3)) := (Below.refl _ _).alloc (Nat.le_refl _) _
  have ho0 := own_empty w 3 1
  have hm0 := hm.alloc (.cells #[] 3)
  have hg1 := hm0.get1 n8 a ha
  obtain ⟨st, imt⟩ := hm0.im a ha
  have hst := imt.size_le
  have HGA := hideIt (show gm a < w.heap.size by obtain ⟨q, hq⟩ := hm.im a ha; exact hq.lt)
  clear hv hda hm0 hm
  go_enter Try.func48, Try.ntmps48
  go_wp2_with (at_range; refine wpList_rangeIM _ rfl (.tmp 13) rfl rfl imt ?_; intro w3 hrg3 hg3 hsz3)
  have b3 := b0.grown hg3 b0.size (fun j hj => by cases hj)
  have ho3 := ho0.kept hg3 (by right; simp [Value.ownBlock])
  have hrb : w.heap.size ≤ (w.alloc (.cells #[] 3)).heap.size := by simp
  have HS0 := hideIt (show (w.alloc (.cells #[] 3)).heap.size = w.heap.size + 1 by simp)
  rw [HS0.out]
  rw [HS0.out] at hrg3 hrb
  have hga : gm a < w.heap.size := HGA.out
  clear hg3 hsz3 ho0 b0 imt hg1
  go_frame
  go_loopg [7] st (fun c o wv => ∃ (ls : List Int) (L : Nat) (B : Option Addr) (cp : Nat) (left : Int → Bool), o = .slice B L cp ∧ Hid (ls.length = L) ∧ L + c ≤ 64 ∧ Hid (NxIn n rs t a left ls) ∧ wv.ownsRow w.heap.size 3 1 (.slice B L cp) L (fl1 ls) ∧ RG wv (gm a) (w.heap.size + 1) (edge rs a) left c ∧ Below w.heap.size w wv) 
  case atStart => exact ⟨[], 0, _, 0, _, rfl, hideIt rfl, by omega, hideIt NxIn.start, ho3, hrg3, b3⟩
  case round =>
    obtain ⟨ls, L, B, cp, left, rfl, HL, hLc, Hin, hrow, hrg, hbw⟩ := hrel
    have hsz := hbw.size
    clear ho3 hrg3 b3
    go_wp2_with (at_next; refine wpList_nextIM _ rfl (.tmp 14) rfl rfl hrg ?_ ?_)
    · intro hc0 hl0
      have hperm := Hin.out.done Hv.out hl0
      have hL8 : L ≤ 8 := by
        have := hperm.length_eq
        rw [HL.out, castL_len] at this
        have := Hlen.out
        omega
      have HL2 := hideIt (show L = (nxs n rs t a).length by
        have := hperm.length_eq
        rw [HL.out, castL_len] at this
        exact this)
      have Hperm := hideIt hperm
      clear hl0 hc0 hperm hrg
      go_wp2_with fail
      refine (sort_any _ _ _ _ _ _ HL.out (by omega) hrow).mono ?_
      rintro e w5 ⟨rfl, ys, hp, hasc, ho5, hg5⟩
      have Hys := hideIt (show ys = castL (nxs n rs t a) from asc_eq (hp.trans Hperm.out) (by rw [hp.length_eq, HL.out]; exact hasc) (castL_asc (nxs_asc n rs t a)))
      have b5 := hbw.grown hg5 hbw.size (fun g hg => (hrow.lt g hg).1)
      rw [Hys.out] at ho5
      clear hp hasc hg5 hrow hbw
      go_wp2
      go_ret
      rw [← HL2.out]
      exact ⟨_, _, rfl, ho5, b5⟩
    · intro x w5 cnt1 okx hlx hfx okfx hrg1 hcl hg5 hs5 hen
      have hex : 1 ≤ edge rs a x ∧ edge rs a x ≤ 99 ∧ 0 ≤ x := by
        obtain ⟨e1, e2, _, _, e3, _⟩ := Hv.out.edge_pos hfx
        exact ⟨e1, e2, e3⟩
      obtain ⟨e1, e2, e3⟩ := hex
      obtain ⟨xv, rfl⟩ := Int.eq_ofNat_of_zero_le e3
      obtain ⟨hxn, d0, d8⟩ := Hnx.out xv e1
      have b5 := hbw.grown hg5 hbw.size (fun j hj => by cases hj; exact hrb)
      have ho5 := own_iter hrow hrg hg5
      have him5 := hi.below b5 (Nat.le_refl _)
      have hl1 := him5.get okx (by rw [Hfar.out xv hxn]; exact d0)
      rw [Hfar.out xv hxn] at hl1
      have hl2 := him5.get oka (by rw [Hda.out, Hdd.out]; exact h0)
      rw [Hda.out, Hdd.out] at hl2
      obtain ⟨dx, hdx⟩ : ∃ d, dist n rs t xv = d := ⟨_, rfl⟩
      obtain ⟨ed, hed⟩ : ∃ d, edge rs a xv = d := ⟨_, rfl⟩
      have Hnxv := hideIt (show nx n rs t a (xv : Int).toNat = (decide (1 ≤ ed) && decide (ed + dx = da)) by rw [Int.toNat_natCast]; unfold nx eN; rw [hed, hdx, Hdd.out])
      rw [hdx] at hl1 d0 d8
      have Hed := hideIt hfx
      rw [hed] at e1 e2 hen
      have Hlx := hideIt hlx
      have hws := IntWalk.i64_in (ed + dx) (by omega)
      have Hcl := hideIt hcl
      have hsz5 := b5.size
      clear hg5 hs5 hrg hrow hbw okfx hlx hfx hdx him5
      rw [hed]
      clear hed
      by_cases hq : ed + dx = da
      · have Hyes := hideIt (show nx n rs t a (xv : Int).toNat = true by rw [Hnxv.out, decide_eq_true e1, decide_eq_true hq]; rfl)
        have hqb : (ed + dx == da) = true := by simpa using hq
        have Hfl := hideIt (show fl1 (ls ++ [(xv : Int)]) = fl1 ls ++ [.int .i64 (xv : Int)] from fl1_snoc ls _)
        clear hq
        go_wp2_with (at_builtin; refine wpList_append_own _ rfl (.tmp 29) (.tmp 31) 26 rfl w.heap.size 3 i0 _ 1 8 Try.underlying26 hi0 hz0 hz1 hz2 rfl (by decide) _ _ _ rfl (ho5.alloc _) ⟨_, 0, none⟩ 1 1 [.int .i64 (xv : Int)] rfl rfl (cell_one_new _ _ _) (by simp [Value.oneCell']) (by unfold maxLen; omega) (by omega) (by simp; omega) ?_; intro v' wn hown' hgrow hnn; clear hnn)
        obtain ⟨A7, c7, rfl⟩ := own_form hown'
        have hrg7 := (hrg1.kept (World.grownBy_alloc w5 (.cells #[.int .i64 (xv : Int)] 3) none) (by simp) (by simp)).row (ho5.alloc _) hga hgrow
        have b7 := (b5.alloc hsz5 (.cells #[.int .i64 (xv : Int)] 3)).grown hgrow (Nat.le_trans hsz5 (by simp)) (fun g hg => (ho5.lt g hg).1)
        clear hgrow ho5 b5 hl1 hl2 hen hrg1
        go_wp2
        go_roundg cnt1
        case measure => exact Hcl.out
        case rel => exact ⟨_, L + 1, A7, c7, _, rfl, hideIt (by rw [List.length_append, HL.out]; rfl), by have := Hcl.out; omega, hideIt (Hin.out.take Hlx.out Hed.out Hyes.out), by rw [Hfl.out]; exact hown', hrg7, b7⟩
      · have Hno := hideIt (show nx n rs t a (xv : Int).toNat = false by rw [Hnxv.out, decide_eq_false hq]; simp)
        have hqb : (ed + dx == da) = false := by simpa using hq
        clear hq
        go_wp2
        go_roundg cnt1
        case measure => exact Hcl.out
        case rel => exact ⟨ls, L, B, cp, _, rfl, HL, by have := Hcl.out; omega, hideIt (Hin.out.skip Hno.out), ho5, hrg1, b5⟩
end Go.Proofs.Ytdnjeahbnidefaa

/- Walks: distances of the program. -/
import Derived.Test.YtdnjeahbnidefaaRoD3
import Derived.Deep.LoopGhost
namespace Go.Proofs.Ytdnjeahbnidefaa
open Go.RowKit

theorem HP.start (w : World) (o : Obj) (x y : Int) (G K : Nat) (hG : (w.alloc o).heap.size = G) (hK : ((w.alloc o).alloc (.cells #[.int .i64 x, .int .i64 y] 82)).heap.size = K) : HP (((w.alloc o).alloc (.cells #[.int .i64 x, .int .i64 y] 82)).alloc (.cells #[.slice (some ⟨G, 0, none⟩) 1 1] 84)) K G G 1 1 [(x, y)] := by
  subst hG
  subst hK
  exact ⟨heap_alloc_new _ _, rfl, (World.ownsRow_lit (base := (w.alloc o).heap.size) (e := 82) (size := 2) (w.alloc o) #[.int .i64 x, .int .i64 y] 1 (Nat.le_refl _) (by unfold maxLen; omega) rfl).alloc _⟩
theorem box_map {w w2 : World} {cs : Array Value} {ty : TypeId} {fb : Nat} {es : Array MapEntry} {cl : Nat} (hf : (w.alloc (.cells cs ty)).heap[fb]? = some (.map es cl)) (hg : (w.alloc (.cells cs ty)).grownBy w2 (some fb)) : w2.heap[w.heap.size]? = some (.cells cs ty) :=
  (hg.block w.heap.size (by simp) (fun e1 => by
    rw [← Option.some.inj e1, heap_alloc_new] at hf
    cases hf)).trans (heap_alloc_new w _)
theorem rmap_map {w w2 : World} {base b n N fb : Nat} {e : Int → Int → Int} {g : Nat → Nat} (h : RMap w base b n e N g) (hne : fb ≠ b ∧ ∀ t, t < n → fb ≠ g t) (hg : w.grownBy w2 (some fb)) : RMap w2 base b n e N g :=
  ⟨h.om.kept hg (fun e1 => hne.1 (Option.some.inj e1).symm), fun t ht => by
    obtain ⟨s, hs⟩ := h.im t ht
    exact ⟨s, hs.kept hg (fun e1 => hne.2 t ht (Option.some.inj e1).symm)⟩, h.inj, h.off, h.base⟩
/-- what distances returns -/
def FarEnd (w : World) (n s : Nat) (rs : List (Int × Int × Int)) (e : Ending) (w' : World) : Prop :=
  ∃ fb, e = .returned (.map (some fb)) ∧ w.heap.size ≤ fb ∧ IM w' fb (farF n rs s) 64 (reach n rs s) ∧ Below w.heap.size w w'

set_option maxRecDepth 100000 in
set_option maxHeartbeats 8000000 in
theorem distances_any (w : World) (base0 b n s : Nat) (rs : List (Int × Int × Int)) (gm : Nat → Nat) (hv : RV n rs) (hs : s < n) (hm : RMap w base0 b n (edge rs) 64 gm) :
    Calls Try.prog 46 #[.map (some b), .int .i64 s] w (FarEnd w n s rs) := by
  have hmm := @run_makeMap Try.prog
  have Hv : Hid (RV n rs) := hideIt hv
  have n8 := hv.n8
  have hstart := HP.start w (.map #[] 0) (s : Int) 0 (w.heap.size + 1) (w.heap.size + 1 + 1) (by simp) (by simp)
  have him0 : IM (((w.alloc (.map #[] 0)).alloc (.cells #[.int .i64 s, .int .i64 0] 82)).alloc (.cells #[.slice (some ⟨w.heap.size + 1, 0, none⟩) 1 1] 84)) w.heap.size (fI (fun _ => -1)) 0 0 :=
    (((IM.new w).alloc _).alloc _).congr (fun k => by unfold fI; split <;> rfl)
  have hne0 : w.heap.size ≠ b ∧ ∀ t, t < n → w.heap.size ≠ gm t := ⟨fun e => by have := hm.om.lt; omega, fun t ht e => by obtain ⟨s', h1⟩ := hm.im t ht; have := h1.lt; omega⟩
  have hgot0 : got n (fun _ => -1) = 0 := by
    have : ∀ m, cnt (fun _ => false) m = 0 := fun m => by
      induction m with
      | zero => rfl
      | succ m ih => rw [cnt, ih]; rfl
    exact this n
  have hinv0 : DInv w (((w.alloc (.map #[] 0)).alloc (.cells #[.int .i64 s, .int .i64 0] 82)).alloc (.cells #[.slice (some ⟨w.heap.size + 1, 0, none⟩) 1 1] 84)) w.heap.size (w.heap.size + 1 + 1) (w.heap.size + 1) b n s rs gm base0 (fun _ => -1) [((s : Int), 0)] (w.heap.size + 1) 1 1 :=
    ⟨Dij.first hs, fun t _ => rfl, hstart, HeapN.one _ _, by rw [hgot0]; exact him0, ((hm.alloc _).alloc _).alloc _, by omega, (((Below.refl _ _).alloc (Nat.le_refl _) _).alloc (by simp) _).alloc (by simp; omega) _, ⟨by omega, by omega, Nat.le_refl _⟩, hne0⟩
  have Hinv0 := hideIt hinv0
  have Hgot0 := hideIt hgot0
  clear hv hstart him0 hgot0 hinv0 hm hne0
  go_enter Try.func46, Try.ntmps46
  go_wp2
  go_loopg [7] (n * 65 + 1) (fun k p wr => ∃ (F : Nat → Int) (H : List (Int × Int)) (g c L : Nat), DInv w wr w.heap.size (w.heap.size + 1 + 1) (w.heap.size + 1) b n s rs gm base0 F H g c L ∧ (n - got n F) * 65 + L ≤ k)
  case atStart => exact ⟨_, _, _, _, _, Hinv0.out, by rw [Hgot0.out]; omega⟩
  case round =>
    obtain ⟨F, H, g, c, L, hinv, hle⟩ := hrel
    have Hinv : Hid (DInv w wr w.heap.size (w.heap.size + 1 + 1) (w.heap.size + 1) b n s rs gm base0 F H g c L) := hideIt hinv
    have hcell := hinv.hp.cell
    have hlo := hinv.lo
    have hgl := got_le n F
    have Hl := hideIt hinv.hp.2.1
    have Hh := hideIt hinv.hh
    clear hinv
    by_cases hL : L = 0
    · subst hL
      have hH : H = [] := List.eq_nil_of_length_eq_zero Hl.out
      subst hH
      have hlast := hideIt (Hv.out.far_last hs Hinv.out.dij Hinv.out.neg)
      have him := hideIt (show IM wr w.heap.size (farF n rs s) 64 (reach n rs s) by
        have h1 := Hinv.out.im
        rw [← hlast.out.2]
        exact (h1.congr hlast.out.1).mono (by omega))
      go_wp2_with fail
      refine (thLen_any _ _ _ _).mono ?_
      rintro e w' ⟨rfl, rfl⟩
      go_wp2
      go_ret
      exact ⟨w.heap.size, rfl, Nat.le_refl _, him.out, Hinv.out.bel⟩
    obtain ⟨m, rfl⟩ : ∃ m, L = m + 1 := ⟨L - 1, by omega⟩
    have hL1 : (0 : Int) < (m : Int) + 1 := by omega
    clear hL
    go_wp2_with fail
    refine (thLen_any _ _ _ _).mono ?_
    rintro e w' ⟨rfl, rfl⟩
    go_wp2_with fail
    refine (heapPop_any _ _ g m c H _ Hinv.out.hp (by omega) Hh.out).mono ?_
    rintro e w1 ⟨⟨zt, zd⟩, ys, rfl, hp1, hh1, hmem, hleast, hs1⟩
    obtain ⟨t, ht, htn, hwk⟩ := Hinv.out.dij.heap (zt, zd) ((hmem _).2 (.inl rfl))
    have ht' : zt = (t : Int) := ht
    subst ht'
    have hta := assert_town (t : Int) zd
    have him1 := (Hinv.out.im.hstep Hinv.out.hp hs1).alloc (.cells #[.int .i64 t, .int .i64 zd] 82)
    have okt : IntOk (t : Int) := by unfold IntOk; omega
    have Hmem : Hid (∀ u, u ∈ H ↔ u = ((t : Int), zd) ∨ u ∈ ys) := hideIt hmem
    have Hleast : Hid (∀ u, u ∈ H → ((t : Int), zd).2 ≤ u.2) := hideIt hleast
    have Hp1 := hideIt hp1
    have Hh1 := hideIt hh1
    have Hs1 : Hid (HStep wr w1 (w.heap.size + 1 + 1) g g) := hideIt hs1
    clear hcell hmem hleast hp1 hh1 hs1 ht hwk
    by_cases hF : 0 ≤ F t
    · have hlook := him1.yes okt (by rw [fI_nat]; exact hF)
      have hinv2 := Hinv.out.pass (o := .cells #[.int .i64 t, .int .i64 zd] 82) Hp1.out Hh1.out Hmem.out Hs1.out rfl hF
      obtain ⟨u, hu⟩ : ∃ u, fI F (t : Int) = u := ⟨_, rfl⟩
      rw [hu] at hlook
      clear hu him1 hF
      go_wp2
      go_roundg ((n - got n F) * 65 + m)
      case measure => omega
      case rel => exact ⟨F, ys, g, c, m, hinv2, by omega⟩
    · have hlook := him1.no okt (by rw [fI_nat]; omega)
      have hD := Hinv.out.dij.least ((Hmem.out _).2 (.inl rfl)) Hleast.out rfl (by omega : F t < 0)
      have hdn := Hv.out.isD_small hD
      have okd : IntOk zd := by unfold IntOk; have h1 : ((t : Int), zd).2 = zd := rfl; omega
      have hrm1 := (Hinv.out.rm.hstep Hinv.out.hp Hs1.out).alloc (.cells #[.int .i64 t, .int .i64 zd] 82)
      obtain ⟨es0, cl0, hfm⟩ := him1.isMap
      have Hfm := hideIt hfm
      have Hrm1 := hideIt hrm1
      have Hne := hideIt Hinv.out.ne
      have hFn : F t < 0 := by omega
      obtain ⟨hzd0, hzd1⟩ : 0 ≤ zd ∧ zd ≤ 800 := hdn
      clear hF hD hrm1 hfm
      go_wp2_with (first
        | (at_mapUpdate; refine wpList_storeIM _ rfl (.tmp 36) (.tmp 38) (.tmp 40) rfl rfl him1 (by unfold maxLen; omega) t zd rfl rfl okt okd hzd0 ?_; intro w2 hi2 hg2; have hbox2 := box_map Hfm.out hg2; have q0 : w2.cell? ⟨w1.heap.size, 0, none⟩ = some (.int .i64 t) := cell_of_row w2 w1.heap.size 0 _ _ _ hbox2; have q1 : w2.cell? ⟨w1.heap.size, 1, none⟩ = some (.int .i64 zd) := cell_of_row w2 w1.heap.size 1 _ _ _ hbox2; have hrm2 := rmap_map Hrm1.out Hne.out hg2; have l3 := hrm2.get1 n8 t htn; obtain ⟨st, imt⟩ := hrm2.im t htn; clear hrm2 hbox2 hlook him1)
        | (at_range; refine wpList_rangeIM _ rfl (.tmp 44) rfl rfl imt ?_; intro w3 hrg3 hg3 hsz3))
      have hst64 := imt.size_le
      have hE0 := Hinv.out.take Hv.out Hp1.out Hh1.out Hmem.out Hleast.out Hs1.out rfl htn hFn hi2 hg2 rfl hrg3 hg3 hst64
      have HE0 := hideIt hE0
      have Hgot := hideIt (got_upd (d := zd) htn hFn hzd0)
      have hgle := got_le n (upd F t zd)
      rw [Hgot.out] at hgle
      clear hE0 hi2 hg2 hrg3 hg3 hsz3 imt l3 q0 q1
      go_frame
      go_loopg [10] st (fun k p wv => ∃ (H2 : List (Int × Int)) (g2 c2 L2 : Nat) (left : Int → Bool), EInv w wv w.heap.size (w.heap.size + 1 + 1) (w.heap.size + 1) b n s rs gm base0 (upd F t zd) t w1.heap.size w2.heap.size left k (m + 64) H2 g2 c2 L2)
      case atStart => exact ⟨_, _, _, _, _, HE0.out⟩
      case round =>
        obtain ⟨H2, g2, c2, L2, left, hE⟩ := hrel
        have HE := hideIt hE
        have Hrg := hideIt hE.rg
        have hlo2 := hE.lo
        clear hE
        go_wp2_with (at_next; refine wpList_nextIM _ rfl (.tmp 45) rfl rfl Hrg.out ?_ ?_)
        · intro hc0 hl0
          have hdone := HE.out
          rw [hc0] at hdone
          have hD2 := hdone.done Hv.out hl0 (by rw [Hgot.out]; omega)
          have HD2 := hideIt hD2
          have HL2 := hideIt hdone.lo
          clear hc0 hl0 hdone hD2
          go_wp2
          go_roundg ((n - (got n F + 1)) * 65 + L2)
          case measure => have := HL2.out; omega
          case rel => exact ⟨_, H2, g2, c2, L2, HD2.out, by rw [Hgot.out]; exact Nat.le_refl _⟩
        · intro x w4 cnt1 okx hlx hfx okfx hrg1 hlt hg4 hs4 hen
          have hed := (Hv.out.edge_le t x).1
          have him4 := HE.out.im.iter HE.out.rg hg4
          have hbox4 := box_iter HE.out.box HE.out.rg hg4
          have q1 : w4.cell? ⟨w1.heap.size, 1, none⟩ = some (.int .i64 zd) := by
            have := cell_of_row w4 w1.heap.size 1 _ _ _ hbox4
            rw [upd_same] at this
            exact this
          have hb4 : Below w.heap.size w w4 := HE.out.bel.grown hg4 HE.out.bel.size (fun k e => by cases e; exact HE.out.hr)
          have hpos := (Hv.out.edge_pos hfx)
          obtain ⟨_, _, _, _, x0, xn, _⟩ := hpos
          obtain ⟨xv, rfl⟩ := Int.eq_ofNat_of_zero_le x0
          have Hrg1 := hideIt hrg1
          have Hg4 := hideIt hg4
          have Hb4 := hideIt hb4
          have Hhp := hideIt (HE.out.hp.iter HE.out.rg hg4)
          obtain ⟨ed, hee⟩ : ∃ ed, edge rs (t : Int) (xv : Int) = ed := ⟨_, rfl⟩
          have Hfx := hideIt hfx
          rw [hee] at hed hfx hen
          have Hee := hideIt hee
          have hsum := IntWalk.i64_in (zd + ed) (by omega)
          by_cases hF2 : 0 ≤ upd F t zd xv
          · have hlook := him4.yes okx (by rw [fI_nat]; exact hF2)
            have hE2 := HE.out.seen Hv.out Hfx.out (by rw [Int.toNat_natCast]; exact hF2) Hrg1.out hlt Hg4.out Hb4.out
            obtain ⟨u, hu⟩ : ∃ u, fI (upd F t zd) (xv : Int) = u := ⟨_, rfl⟩
            rw [hu] at hlook
            clear hrg1 hg4 him4 hbox4 hb4 hF2 hu okfx
            rw [hee]
            clear hee
            go_wp2
            go_roundg cnt1
            case measure => exact hlt
            case rel => exact ⟨_, _, _, _, _, hE2⟩
          · have hlook := him4.no okx (by rw [fI_nat]; omega)
            clear hrg1 hg4 him4 hbox4 hb4 hF2 okfx
            rw [hee]
            clear hee
            go_wp2_with fail
            refine (heapPush_any _ _ g2 L2 c2 H2 _ _ w4 Hhp.out (by omega) HE.out.hh).mono ?_
            rintro e w5 ⟨rfl, g5, c5, ys5, hp5, hh5, hmem5, hs5⟩
            have hE2 := HE.out.push Hv.out Hfx.out Hrg1.out hlt Hg4.out Hb4.out hp5 hh5 (fun u => by rw [hmem5 u, upd_same, Hee.out]) hs5
            have HE2 := hideIt hE2
            clear hE2 hp5 hh5 hmem5 hs5
            go_wp2
            go_roundg cnt1
            case measure => exact hlt
            case rel => exact ⟨_, _, _, _, _, HE2.out⟩
end Go.Proofs.Ytdnjeahbnidefaa

/- Walks: RosterMake of the program: it needs no more teams than any roster. -/
import Derived.Test.YtckjagpjljbohaaRtMk
import Derived.Test.YtckjagpjljbohaaRtTb
import Derived.Test.YtckjagpjljbohaaRu8
namespace Go.Proofs.Ytckjagpjljbohaa
open Go.RowKit

/-- a list of the call's own, one team below T for each run -/
def MadeT (w : World) (m T : Nat) (e : Ending) (w' : World) : Prop :=
  ∃ (ro : List Int) (b c : Nat), e = .returned (.tuple #[.slice (some ⟨b, 0, none⟩) m c, .bool true]) ∧ ro.length = m ∧ (∀ j, j < m → 0 ≤ a1 ro j ∧ a1 ro j < T) ∧ w'.ownsRow w.heap.size 3 1 (.slice (some ⟨b, 0, none⟩) m c) m (fl1 ro) ∧ Below w.heap.size w w'
def pobj (b : Bool) : Obj := .cells #[.slice none 0 0, .func (.func (pfn b)) #[] #[]] 58
theorem RM.start {w w1 : World} (hb : Below w.heap.size w w1) : RM w ((w1.alloc (pobj true)).alloc (pobj false)) w1.heap.size (w1.heap.size + 1) none none 0 0 0 0 [] [] := by
  have hs := hb.size
  have nil : ∀ v : World, v.ownsRow w.heap.size 54 2 (psl none 0 0) 0 (fl2 []) := fun v => ⟨rfl, .inl ⟨rfl, rfl⟩⟩
  have e2 := heap_alloc_new (w1.alloc (pobj true)) (pobj false)
  rw [show (w1.alloc (pobj true)).heap.size = w1.heap.size + 1 by simp] at e2
  exact ⟨⟨⟨(Below.heap_alloc _ _ _ (by simp)).trans (heap_alloc_new w1 _), rfl, nil _⟩, ⟨e2, rfl, nil _⟩⟩, ⟨HeapN.nil _, HeapN.nil _⟩, ⟨by omega, fun g e => nomatch e⟩, ⟨hs, by omega⟩, (hb.alloc hs _).alloc (by simp; omega) _⟩
theorem field_team (x y : Int) (w : World) : (Instr.field 54 (.agg #[.int .i64 x, .int .i64 y]) 0).run Try.prog w = .ok (.int .i64 x) w := by kernel_rfl
theorem own_run {v : World} {base g k c D : Nat} {ys : List Value} {cs : Array Value} (ho : v.ownsRow base 3 1 (.slice (some ⟨g, 0, none⟩) k c) k ys) (hD : v.heap[D]? = some (.cells cs 31)) : g ≠ D := fun e => by
  subst e
  rcases ho.2 with ⟨hv, _⟩ | ⟨g', c', cur, hv, _, hh, _⟩
  · cases hv
  · simp only [Value.slice.injEq, Option.some.injEq, Addr.mk.injEq] at hv
    rw [← hv.1.1, hD] at hh
    injection hh with hh
    injection hh with _ hh
    cases hh
theorem grow_run {w5 w6 : World} {base g k c D : Nat} {ys : List Value} {cs : Array Value} {o : Obj} (ho : w5.ownsRow base 3 1 (.slice (some ⟨g, 0, none⟩) k c) k ys) (hD : w5.heap[D]? = some (.cells cs 31)) (hg : (w5.alloc o).grownBy w6 (Value.slice (some ⟨g, 0, none⟩) k c).ownBlock) : w6.heap[D]? = some (.cells cs 31) := by
  have hlt := (Array.getElem?_eq_some_iff.1 hD).1
  exact (hg.block D (by simp; omega) (fun e => own_run ho hD (Option.some.inj e).symm)).trans ((Below.heap_alloc w5 o D hlt).trans hD)
theorem PL.rowInt {b : Bool} {v v' : World} {h base : Nat} {o : Option Nat} {n c : Nat} {xs : List (Int × Int)} {bs g k ck : Nat} {ys : List Value} (hp : PL b v h base o n c xs) (ho : v.ownsRow bs 3 1 (.slice (some ⟨g, 0, none⟩) k ck) k ys) (hg : v.grownBy v' (some g)) : PL b v' h base o n c xs := by
  rcases ho.2 with ⟨hv, _⟩ | ⟨g', c', cur, hv, _, hh, _⟩
  · cases hv
  · simp only [Value.slice.injEq, Option.some.injEq, Addr.mk.injEq] at hv
    rw [← hv.1.1] at hh
    have := hp.off hh (by decide) (by decide)
    exact hp.kept hg (fun e => this.1 (Option.some.inj e)) (fun g'' e1 e2 => this.2 (e1.trans e2.symm))
theorem RM.grow {w0 w5 w6 : World} {hB hI : Nat} {oB oI : Option Nat} {nB cB nI cI : Nat} {Bs Is : List (Int × Int)} {g k c : Nat} {ys : List Value} {o : Obj} (r : RM w0 w5 hB hI oB oI nB cB nI cI Bs Is) (ho : w5.ownsRow w0.heap.size 3 1 (.slice (some ⟨g, 0, none⟩) k c) k ys) (hg : (w5.alloc o).grownBy w6 (Value.slice (some ⟨g, 0, none⟩) k c).ownBlock) : RM w0 w6 hB hI oB oI nB cB nI cI Bs Is := by
  have r2 := r.below ((Below.refl w5.heap.size w5).alloc (Nat.le_refl _) o)
  have ho2 := ho.alloc o
  have hlt := ho.lt g rfl
  obtain ⟨⟨p1, p2⟩, hh, d, ee, bl⟩ := r2
  exact ⟨⟨p1.rowInt ho2 hg, p2.rowInt ho2 hg⟩, hh, d, ee, bl.grown hg bl.size (fun j hj => by cases hj; exact hlt.1)⟩
def slen : Option Value → Nat
  | some (.slice _ n _) => n
  | _ => 0

set_option maxRecDepth 100000 in
set_option maxHeartbeats 8000000 in
theorem implRosterMake_any (A : Option Addr) (rs : List (Int × Int)) (m cap : Nat) (rest : Int) (gro : List Int) (w : World) (T : Nat) (hl : rs.length = m) (hm : m ≤ 1048576) (hr : Rd w A (fl2 rs)) (hv : rosterValid rs rest gro = true) (hT : diffTo gro gro.length = T) :
    Calls Try.prog 14 #[.slice A m cap, .int .i64 rest] w (MadeT w m T) := by
  subst hT
  have Hl := hideIt hl
  have Hv := hideIt hv
  have hrr := (rosterValid_t hv).1
  have Hin := hideIt (runsRest_in hrr)
  have h12 := (runsRest_in hrr).1
  rw [hl] at h12
  rw [runsRest, Bool.and_eq_true] at hrr
  obtain ⟨h1, h2⟩ := hrr
  have H1 := hideIt h1
  have H2 := hideIt h2
  obtain ⟨i0, hi, hz0', hz1, hz2⟩ := info_parts info_intR
  clear hl hv h1 h2
  go_enter Try.func14, Try.ntmps14
  go_wp2_with fail
  refine (implRunsValid_any _ _ _ _ _ _ Hl.out hm (hr.alloc _) H1.out).mono ?_
  rintro e w1 ⟨rfl, hb1⟩
  go_wp2_with fail
  refine (restValid_any _ _ _ H2.out).mono ?_
  rintro e w2 ⟨rfl, rfl⟩
  have ho1 := own_below (own_empty w 3 1) hb1 (Nat.le_refl _)
  have bB1 := ((Below.refl w.heap.size w).alloc (Nat.le_refl _) (.cells #[] 3)).trans (hb1.mono (by simp))
  have hrm := RM.start bB1
  have ho2 := (ho1.alloc (pobj true)).alloc (pobj false)
  have hR0 := bB1.size
  unfold pobj at hrm ho2
  rw [show pfn true = 25 from rfl, show pfn false = 26 from rfl] at hrm ho2
  clear hb1 ho1 bB1
  go_wp2
  generalize hW0 : (w1.alloc (.cells #[.slice none 0 0, .func (.func 25) #[] #[]] 58)).alloc (.cells #[.slice none 0 0, .func (.func 26) #[] #[]] 58) = W0 at *
  obtain ⟨hB, hBe⟩ : ∃ x, w1.heap.size = x := ⟨_, rfl⟩
  rw [hBe] at hrm ⊢
  obtain ⟨hI, hIe⟩ : ∃ x, hB + 1 = x := ⟨_, rfl⟩
  rw [hIe] at hrm ⊢
  clear hW0 hIe hBe hR0
  have Hst : Hid (RM w W0 hB hI none none 0 0 0 0 [] []) := hideIt hrm
  clear hrm
  go_loopw [6, 9, 29] (fun o t i wr => ∃ (k tn g c : Nat) (ro : List Int) (oB oI : Option Nat) (nB cB nI cI : Nat) (Bs Is : List (Int × Int)), k ≤ m ∧ i = .int .i64 k ∧ t = .int .i64 tn ∧ o = .slice (some ⟨g, 0, none⟩) k c ∧ ro.length = k ∧ (tn ≤ k ∧ nB + nI = tn) ∧ wr.ownsRow w.heap.size 3 1 (.slice (some ⟨g, 0, none⟩) k c) k (fl1 ro) ∧ RM w wr hB hI oB oI nB cB nI cI Bs Is ∧ Mk rs rest (diffTo gro gro.length) ro Bs Is tn k) (fun _ _ i _ => m - (intOf i).toNat)
  case atStart => exact ⟨0, 0, w.heap.size, 0, [], none, none, 0, 0, 0, 0, [], [], by omega, rfl, rfl, rfl, rfl, ⟨by omega, rfl⟩, ho2, Hst.out, Mk.start _ _ _⟩
  case round =>
    obtain ⟨k, tn, g, c, ro, oB, oI, nB, cB, nI, cI, Bs, Is, hk, rfl, rfl, rfl, hlr, ⟨htk, hnn⟩, hrow, hrm, hmk⟩ := hrel
    have Hlr := hideIt hlr
    have HR0 : Hid (RM w wr hB hI oB oI nB cB nI cI Bs Is) := hideIt hrm
    have HM0 : Hid (Mk rs rest (diffTo gro gro.length) ro Bs Is tn k) := hideIt hmk
    have Ho0 := hideIt hrow
    clear ho2 hrm hmk hrow hlr
    by_cases hlt : k < m
    · have hkl : k < rs.length := by rw [Hl.out]; exact hlt
      obtain ⟨b, off, rfl, hb, hc⟩ := (hr.below HR0.out.2.2.2.2 (Nat.le_refl _)).at2 hkl
      obtain ⟨hx, hy⟩ := hc k hkl
      obtain ⟨_, ⟨r0, r1⟩, hin⟩ := Hin.out
      obtain ⟨i1, i2, i3⟩ := hin k hkl
      obtain ⟨s, hs⟩ : ∃ s, a2 rs k = s := ⟨_, rfl⟩
      obtain ⟨e, he⟩ : ∃ e, b2 rs k = e := ⟨_, rfl⟩
      rw [hs] at hx i1 i2
      rw [he] at hy i2 i3
      have Hse := hideIt (And.intro hs he)
      have hkm : (k : Int) < (m : Int) := by omega
      have hwe := IntWalk.i64_in (e + rest) (by omega)
      have Hwe := hideIt hwe
      have bD := (Below.refl wr.heap.size wr).alloc (Nat.le_refl _) (.cells #[.int .i64 s, .int .i64 e] 31)
      have HR1 := hideIt (HR0.out.below bD)
      have Ho1 := hideIt (Ho0.out.alloc (.cells #[.int .i64 s, .int .i64 e] 31))
      have HD1 := hideIt (heap_alloc_new wr (.cells #[.int .i64 s, .int .i64 e] 31))
      clear hc hkl hs he hin bD hwe HR0 Ho0
      go_wp2
      generalize hWD : wr.alloc (.cells #[.int .i64 s, .int .i64 e] 31) = wD at *
      obtain ⟨D, hDe⟩ : ∃ x, wr.heap.size = x := ⟨_, rfl⟩
      rw [hDe] at HD1 ⊢
      clear hWD hDe hx hy
      go_loopw [33] (fun _ wx => ∃ (oB oI : Option Nat) (nB cB nI cI : Nat) (Bs Is : List (Int × Int)), nB + nI = tn ∧ wx.ownsRow w.heap.size 3 1 (.slice (some ⟨g, 0, none⟩) k c) k (fl1 ro) ∧ RM w wx hB hI oB oI nB cB nI cI Bs Is ∧ Mk rs rest (diffTo gro gro.length) ro Bs Is tn k ∧ wx.heap[D]? = some (.cells #[.int .i64 s, .int .i64 e] 31)) (fun _ wx => slen (wx.cell? ⟨hB, 0, none⟩))
      case atStart => exact ⟨oB, oI, nB, cB, nI, cI, Bs, Is, hnn, Ho1.out, HR1.out, HM0.out, HD1.out⟩
      case round =>
        clear Ho1 HR1 HM0 HD1 hnn nB cB nI cI Bs Is oB oI
        obtain ⟨oB, oI, nB, cB, nI, cI, Bs, Is, hnn, hrow, hrm, hmk, hD⟩ := hrel
        have hq0 : wr.cell? ⟨D, 0, none⟩ = some (.int .i64 s) := cell_of_row wr D 0 _ _ _ hD
        have hpB := hrm.1.1
        have hpI := hrm.1.2
        have hhB := hrm.2.1.1
        have hhI := hrm.2.1.2
        have hcB : wr.cell? ⟨hB, 0, none⟩ = some (.slice (oB.map fun b => ⟨b, 0, none⟩) nB cB) := hpB.cell
        by_cases hgo : 0 < nB ∧ b2 Bs 0 ≤ s
        · obtain ⟨hnB, htop⟩ := hgo
          obtain ⟨p, rfl⟩ : ∃ p, nB = p + 1 := ⟨nB - 1, by omega⟩
          obtain ⟨gB, hgB⟩ : ∃ gB, oB = some gB := by
            cases oB with
            | none => exact absurd (own_some hpB.2.2 (by omega)) (by rintro ⟨_, q, _⟩; cases q)
            | some x => exact ⟨x, rfl⟩
          subst hgB
          have hcB2 : wr.cell? ⟨hB, 0, none⟩ = some (.slice (some ⟨gB, 0, none⟩) (p + 1) cB) := hcB
          have hoB : wr.ownsRow w.heap.size 54 2 (.slice (some ⟨gB, 0, none⟩) (p + 1) cB) (p + 1) (fl2 Bs) := hpB.2.2
          have hy0 := (row2_a hoB (k := 0) (by rw [hpB.2.1]; omega)).2
          rw [Nat.zero_mul, Nat.zero_add] at hy0
          obtain ⟨f0, hf0⟩ : ∃ f, b2 Bs 0 = f := ⟨_, rfl⟩
          rw [hf0] at hy0 htop
          have HB := hideIt hpB
          have HI := hideIt hpI
          have HhB := hideIt hhB
          have HhI := hideIt hhI
          have HR := hideIt hrm
          have HM := hideIt hmk
          have Ho := hideIt hrow
          have HD := hideIt hD
          have hp1 : (0 : Int) < (p : Int) + 1 := by omega
          have Hms := hideIt (show slen (wr.cell? ⟨hB, 0, none⟩) = p + 1 by rw [hcB2]; rfl)
          clear hcB hoB hf0 hpB hpI hhB hhI hrm hmk hrow hD
          go_wp2
          go_quiet (fail)
          clear hcB2 hy0 hq0
          go_wp2_with fail
          have hcall := fun n => pilePop_any true hB w.heap.size gB p cB Bs (wr.drewN n) HB.out (by omega) HhB.out
          refine (hcall _).mono ?_
          clear hcall
          rintro e3 w3 ⟨z, Bs3, rfl, hp3, hh3, hm3, hl3, hs3⟩
          have hs3' : PStep wr w3 hB (some gB) (some gB) := hs3
          have R3 := hideIt (HR.out.busy hp3 hh3 hs3')
          have Ho3 := hideIt (own_pstep Ho.out HB.out hs3' (by decide) (by decide))
          have hoff := HB.out.off HD.out (by decide) (by decide)
          have HD3 := hideIt (hs3'.at HD.out hoff.1 hoff.2)
          have hm3' := hideIt hm3
          clear hp3 hh3 hs3 hs3' hoff HR Ho HD HB HI HhB HhI hl3 hm3
          have hsz3 := R3.out.2.2.2.2.size
          go_wp2_with fail
          refine (pilePush_any false hI w.heap.size oI nI cI Is z.1 z.2 _ R3.out.1.2 hsz3 (by omega) R3.out.2.1.2).mono ?_
          rintro e4 w4 ⟨rfl, g4, c4, Is4, hp4, hh4, hm4, hs4⟩
          have R4 := hideIt (R3.out.idle hp4 hh4 hs4)
          have Ho4 := hideIt (own_pstep Ho3.out R3.out.1.2 hs4 (by decide) (by decide))
          have hoff := R3.out.1.2.off HD3.out (by decide) (by decide)
          have HD4 := hideIt (hs4.at HD3.out hoff.1 hoff.2)
          have HM4 := hideIt (HM.out.free hm3'.out hm4)
          have Hms4 := hideIt (show slen (w4.cell? ⟨hB, 0, none⟩) = p by rw [R4.out.1.1.cell]; rfl)
          clear hp4 hh4 hs4 hoff R3 Ho3 HD3 HM hm4 hm3'
          go_wp2
          go_roundw
          case rel => exact ⟨_, _, p, cB, nI + 1, _, Bs3, Is4, by omega, Ho4.out, R4.out, HM4.out, HD4.out⟩
          case measure => show slen (w4.cell? ⟨hB, 0, none⟩) < slen (wr.cell? ⟨hB, 0, none⟩); rw [Hms.out, Hms4.out]; omega
        · have hfree : ∀ p ∈ Bs, s < p.2 := fun p hp => by
            have hpos : 0 < nB := by
              have := hpB.2.1
              cases Bs with
              | nil => exact nomatch hp
              | cons x xs => simp at this; omega
            have := hhB.least_mem hpB.2.1 hp
            have h2 : s < b2 Bs 0 := by omega
            have h3 : ky (pkey true) Bs 0 = b2 Bs 0 := rfl
            have h4 : pkey true p = p.2 := rfl
            omega
          have Hfree := hideIt hfree
          have HR := hideIt hrm
          have HM := hideIt hmk
          have Ho := hideIt hrow
          have HD := hideIt hD
          have Hnn := hideIt hnn
          have hnB12 : nB ≤ 12 := by omega
          have hnI12 : nI ≤ 12 := by omega
          clear hnn
          have hcI : wr.cell? ⟨hI, 0, none⟩ = some (.slice (oI.map fun b => ⟨b, 0, none⟩) nI cI) := hpI.cell
          by_cases hnB : nB = 0
          · subst hnB
            clear hfree hrm hmk hrow hD hpI hhB hhI hpB hgo
            by_cases hnI : nI = 0
            · obtain rfl : Is = [] := List.eq_nil_of_length_eq_zero (HR.out.1.2.2.1.trans hnI)
              subst hnI
              go_wp2
              go_quiet (fail)
              go_wp2_with fail
              have hcall := fun q => pilePush_any false hI w.heap.size oI 0 cI [] tn 0 (wr.drewN q) HR.out.1.2 HR.out.2.2.2.2.size (by omega) HR.out.2.1.2
              refine (hcall _).mono ?_
              clear hcall
              rintro e4 w4 ⟨rfl, gI, cI2, Is2, hp4, hh4, hm4, hs4⟩
              have hs4' : PStep wr w4 hI oI (some gI) := hs4
              have HR2 := hideIt (HR.out.idle hp4 hh4 hs4')
              have Ho2 := hideIt (own_pstep Ho.out HR.out.1.2 hs4' (by decide) (by decide))
              have hoff := HR.out.1.2.off HD.out (by decide) (by decide)
              have HD2 := hideIt (hs4'.at HD.out hoff.1 hoff.2)
              have HM2 := hideIt (HM.out.fresh Hv.out (by rw [Hl.out]; exact hlt) (by rw [Hse.out.1]; exact Hfree.out) hm4)
              clear hp4 hh4 hs4 hs4' hoff HR Ho HD HM hm4 hcI
              have hwt := IntWalk.i64_in ((tn : Int) + 1) (by omega)
              go_wp2_with fail
              clear hwt
              have hcall := fun (_q : Nat) => pilePop_any false hI w.heap.size gI 0 cI2 Is2 w4 HR2.out.1.2 (by omega) HR2.out.2.1.2
              refine (hcall 0).mono ?_
              clear hcall
              rintro e5 w5 ⟨z, Is5, rfl, hp5, hh5, hm5, hl5, hs5⟩
              have hs5' : PStep w4 w5 hI (some gI) (some gI) := hs5
              have R5 := hideIt (HR2.out.idle hp5 hh5 hs5')
              have Ho5 := hideIt (own_pstep Ho2.out HR2.out.1.2 hs5' (by decide) (by decide))
              have hoff := HR2.out.1.2.off HD2.out (by decide) (by decide)
              have HD5 := hideIt (hs5'.at HD2.out hoff.1 hoff.2)
              have HM5 : Hid (∀ Bs', (∀ u, u ∈ Bs' ↔ u = (z.1, e + rest) ∨ u ∈ Bs) → Mk rs rest (diffTo gro gro.length) (ro ++ [z.1]) Bs' Is5 (tn + 1) (k + 1)) := hideIt (fun Bs' hB' => HM2.out.take Hlr.out hm5 (by rw [Hse.out.2]; exact hB'))
              have hz1' := HM2.out.2.1 z ((hm5 z).2 (.inl rfl))
              clear hp5 hh5 hs5 hs5' hoff HR2 Ho2 HD2 HM2 hl5 hm5
              have hsz5 := R5.out.2.2.2.2.size
              have Hwe2 := Hwe
              have hfld := field_team z.1 z.2
              go_wp2_with (at_builtin; refine wpList_append_own _ rfl (.tmp 70) (.tmp 72) 24 rfl w.heap.size 3 i0 _ 1 8 Try.underlying24 hi hz0' hz1 hz2 rfl (by decide) _ _ _ rfl (Ho5.out.alloc _) ⟨w5.heap.size, 0, none⟩ 1 1 [.int .i64 z.1] rfl rfl (cell_one_new _ _ _) (by simp [Value.oneCell']) (by unfold maxLen; omega) (by omega) (by simp; omega) ?_; intro v' w6 hown6 hgrow6 hnn6; clear hnn6; obtain ⟨A6, c6, rfl⟩ := own_form hown6; obtain ⟨g6, rfl, _, _⟩ := own_some hown6 (by omega); have R6 := hideIt (R5.out.grow Ho5.out hgrow6); have hD6 := grow_run Ho5.out HD5.out hgrow6; have hq1 : w6.cell? ⟨D, 1, none⟩ = some (.int .i64 e) := cell_of_row w6 D 1 _ _ _ hD6; have hwe := Hwe2.out; have Ho6 := hideIt hown6; have HD6 := hideIt hD6; clear hgrow6 hown6 hD6)
              have hsz6 := R6.out.2.2.2.2.size
              clear hq1 hwe hfld
              refine (pilePush_any true hB w.heap.size _ 0 cB Bs z.1 (e + rest) _ R6.out.1.1 hsz6 (by omega) R6.out.2.1.1).mono ?_
              rintro e7 w7 ⟨rfl, g7, c7, Bs7, hp7, hh7, hm7, hs7⟩
              have R7 := hideIt (R6.out.busy hp7 hh7 hs7)
              have Ho7 := hideIt (own_pstep Ho6.out R6.out.1.1 hs7 (by decide) (by decide))
              have HM7 := hideIt (HM5.out Bs7 hm7)
              have Hfl := hideIt (fl1_snoc ro z.1)
              have Hln := hideIt (show (ro ++ [z.1]).length = k + 1 by rw [List.length_append, Hlr.out]; rfl)
              clear hp7 hh7 hs7 hm7 R6 Ho6 HM5 Ho5 R5 HD5
              go_wp2
              go_roundw
              case rel => exact ⟨k + 1, tn + 1, g6, c6, ro ++ [z.1], some g7, some gI, 0 + 1, c7, 0, cI2, Bs7, Is5, by omega, by go_num, by go_num, rfl, Hln.out, ⟨by have := Hnn.out; omega, by have := Hnn.out; omega⟩, by rw [Hfl.out]; exact Ho7.out, R7.out, HM7.out⟩
              case measure => simp [intOf]; omega
            · obtain ⟨pI, rfl⟩ : ∃ p, nI = p + 1 := ⟨nI - 1, by omega⟩
              obtain ⟨gI, hgI⟩ : ∃ g, oI = some g := by
                cases oI with
                | none => exact absurd (own_some HR.out.1.2.2.2 (by omega)) (by rintro ⟨_, q, _⟩; cases q)
                | some x => exact ⟨x, rfl⟩
              subst hgI
              have hcI2 : wr.cell? ⟨hI, 0, none⟩ = some (.slice (some ⟨gI, 0, none⟩) (pI + 1) cI) := hcI
              have hne0 : (((pI : Int) + 1) == (0 : Int)) = false := by simp; omega
              obtain ⟨cI2, hcIe⟩ : ∃ x, x = cI := ⟨_, rfl⟩
              subst hcIe
              obtain ⟨Is2, hIse⟩ : ∃ x, x = Is := ⟨_, rfl⟩
              subst hIse
              have HR2 := HR
              have Ho2 := Ho
              have HD2 := HD
              have HM2 := HM
              clear HR Ho HD HM hcI hnI
              go_wp2
              go_quiet (fail)
              go_wp2_with fail
              clear hcI2 hne0
              have hcall := fun (q : Nat) => pilePop_any false hI w.heap.size gI pI cI2 Is2 (wr.drewN q) HR2.out.1.2 (by omega) HR2.out.2.1.2
              refine (hcall _).mono ?_
              clear hcall
              rintro e5 w5 ⟨z, Is5, rfl, hp5, hh5, hm5, hl5, hs5⟩
              have hs5' : PStep wr w5 hI (some gI) (some gI) := hs5
              have R5 := hideIt (HR2.out.idle hp5 hh5 hs5')
              have Ho5 := hideIt (own_pstep Ho2.out HR2.out.1.2 hs5' (by decide) (by decide))
              have hoff := HR2.out.1.2.off HD2.out (by decide) (by decide)
              have HD5 := hideIt (hs5'.at HD2.out hoff.1 hoff.2)
              have HM5 : Hid (∀ Bs', (∀ u, u ∈ Bs' ↔ u = (z.1, e + rest) ∨ u ∈ Bs) → Mk rs rest (diffTo gro gro.length) (ro ++ [z.1]) Bs' Is5 (tn) (k + 1)) := hideIt (fun Bs' hB' => HM2.out.take Hlr.out hm5 (by rw [Hse.out.2]; exact hB'))
              have hz1' := HM2.out.2.1 z ((hm5 z).2 (.inl rfl))
              clear hp5 hh5 hs5 hs5' hoff HR2 Ho2 HD2 HM2 hl5 hm5
              have hsz5 := R5.out.2.2.2.2.size
              have Hwe2 := Hwe
              have hfld := field_team z.1 z.2
              go_wp2_with (at_builtin; refine wpList_append_own _ rfl (.tmp 70) (.tmp 72) 24 rfl w.heap.size 3 i0 _ 1 8 Try.underlying24 hi hz0' hz1 hz2 rfl (by decide) _ _ _ rfl (Ho5.out.alloc _) ⟨w5.heap.size, 0, none⟩ 1 1 [.int .i64 z.1] rfl rfl (cell_one_new _ _ _) (by simp [Value.oneCell']) (by unfold maxLen; omega) (by omega) (by simp; omega) ?_; intro v' w6 hown6 hgrow6 hnn6; clear hnn6; obtain ⟨A6, c6, rfl⟩ := own_form hown6; obtain ⟨g6, rfl, _, _⟩ := own_some hown6 (by omega); have R6 := hideIt (R5.out.grow Ho5.out hgrow6); have hD6 := grow_run Ho5.out HD5.out hgrow6; have hq1 : w6.cell? ⟨D, 1, none⟩ = some (.int .i64 e) := cell_of_row w6 D 1 _ _ _ hD6; have hwe := Hwe2.out; have Ho6 := hideIt hown6; have HD6 := hideIt hD6; clear hgrow6 hown6 hD6)
              have hsz6 := R6.out.2.2.2.2.size
              clear hq1 hwe hfld
              refine (pilePush_any true hB w.heap.size _ 0 cB Bs z.1 (e + rest) _ R6.out.1.1 hsz6 (by omega) R6.out.2.1.1).mono ?_
              rintro e7 w7 ⟨rfl, g7, c7, Bs7, hp7, hh7, hm7, hs7⟩
              have R7 := hideIt (R6.out.busy hp7 hh7 hs7)
              have Ho7 := hideIt (own_pstep Ho6.out R6.out.1.1 hs7 (by decide) (by decide))
              have HM7 := hideIt (HM5.out Bs7 hm7)
              have Hfl := hideIt (fl1_snoc ro z.1)
              have Hln := hideIt (show (ro ++ [z.1]).length = k + 1 by rw [List.length_append, Hlr.out]; rfl)
              clear hp7 hh7 hs7 hm7 R6 Ho6 HM5 Ho5 R5 HD5
              go_wp2
              go_roundw
              case rel => exact ⟨k + 1, tn, g6, c6, ro ++ [z.1], some g7, some gI, 0 + 1, c7, pI, cI2, Bs7, Is5, by omega, by go_num, by go_num, rfl, Hln.out, ⟨by have := Hnn.out; omega, by have := Hnn.out; omega⟩, by rw [Hfl.out]; exact Ho7.out, R7.out, HM7.out⟩
              case measure => simp [intOf]; omega
          · obtain ⟨p, rfl⟩ : ∃ p, nB = p + 1 := ⟨nB - 1, by omega⟩
            obtain ⟨gB, hgB⟩ : ∃ gB, oB = some gB := by
              cases oB with
              | none => exact absurd (own_some hpB.2.2 (by omega)) (by rintro ⟨_, q, _⟩; cases q)
              | some x => exact ⟨x, rfl⟩
            subst hgB
            have hcB2 : wr.cell? ⟨hB, 0, none⟩ = some (.slice (some ⟨gB, 0, none⟩) (p + 1) cB) := hcB
            have hoB : wr.ownsRow w.heap.size 54 2 (.slice (some ⟨gB, 0, none⟩) (p + 1) cB) (p + 1) (fl2 Bs) := hpB.2.2
            have hy0 := (row2_a hoB (k := 0) (by rw [hpB.2.1]; omega)).2
            rw [Nat.zero_mul, Nat.zero_add] at hy0
            have htop : ¬ b2 Bs 0 ≤ s := by omega
            obtain ⟨f0, hf0⟩ : ∃ f, b2 Bs 0 = f := ⟨_, rfl⟩
            rw [hf0] at hy0 htop
            have hp1 : (0 : Int) < (p : Int) + 1 := by omega
            clear hcB hoB hf0 hfree hrm hmk hrow hD hpI hhB hhI hpB hgo hnB
            by_cases hnI : nI = 0
            · obtain rfl : Is = [] := List.eq_nil_of_length_eq_zero (HR.out.1.2.2.1.trans hnI)
              subst hnI
              go_wp2
              go_quiet (fail)
              go_wp2_with fail
              have hcall := fun q => pilePush_any false hI w.heap.size oI 0 cI [] tn 0 (wr.drewN q) HR.out.1.2 HR.out.2.2.2.2.size (by omega) HR.out.2.1.2
              refine (hcall _).mono ?_
              clear hcall
              rintro e4 w4 ⟨rfl, gI, cI2, Is2, hp4, hh4, hm4, hs4⟩
              have hs4' : PStep wr w4 hI oI (some gI) := hs4
              have HR2 := hideIt (HR.out.idle hp4 hh4 hs4')
              have Ho2 := hideIt (own_pstep Ho.out HR.out.1.2 hs4' (by decide) (by decide))
              have hoff := HR.out.1.2.off HD.out (by decide) (by decide)
              have HD2 := hideIt (hs4'.at HD.out hoff.1 hoff.2)
              have HM2 := hideIt (HM.out.fresh Hv.out (by rw [Hl.out]; exact hlt) (by rw [Hse.out.1]; exact Hfree.out) hm4)
              clear hp4 hh4 hs4 hs4' hoff HR Ho HD HM hm4 hcI
              have hwt := IntWalk.i64_in ((tn : Int) + 1) (by omega)
              go_wp2_with fail
              clear hwt
              have hcall := fun (_q : Nat) => pilePop_any false hI w.heap.size gI 0 cI2 Is2 w4 HR2.out.1.2 (by omega) HR2.out.2.1.2
              refine (hcall 0).mono ?_
              clear hcall
              rintro e5 w5 ⟨z, Is5, rfl, hp5, hh5, hm5, hl5, hs5⟩
              have hs5' : PStep w4 w5 hI (some gI) (some gI) := hs5
              have R5 := hideIt (HR2.out.idle hp5 hh5 hs5')
              have Ho5 := hideIt (own_pstep Ho2.out HR2.out.1.2 hs5' (by decide) (by decide))
              have hoff := HR2.out.1.2.off HD2.out (by decide) (by decide)
              have HD5 := hideIt (hs5'.at HD2.out hoff.1 hoff.2)
              have HM5 : Hid (∀ Bs', (∀ u, u ∈ Bs' ↔ u = (z.1, e + rest) ∨ u ∈ Bs) → Mk rs rest (diffTo gro gro.length) (ro ++ [z.1]) Bs' Is5 (tn + 1) (k + 1)) := hideIt (fun Bs' hB' => HM2.out.take Hlr.out hm5 (by rw [Hse.out.2]; exact hB'))
              have hz1' := HM2.out.2.1 z ((hm5 z).2 (.inl rfl))
              clear hp5 hh5 hs5 hs5' hoff HR2 Ho2 HD2 HM2 hl5 hm5
              have hsz5 := R5.out.2.2.2.2.size
              have Hwe2 := Hwe
              have hfld := field_team z.1 z.2
              go_wp2_with (at_builtin; refine wpList_append_own _ rfl (.tmp 70) (.tmp 72) 24 rfl w.heap.size 3 i0 _ 1 8 Try.underlying24 hi hz0' hz1 hz2 rfl (by decide) _ _ _ rfl (Ho5.out.alloc _) ⟨w5.heap.size, 0, none⟩ 1 1 [.int .i64 z.1] rfl rfl (cell_one_new _ _ _) (by simp [Value.oneCell']) (by unfold maxLen; omega) (by omega) (by simp; omega) ?_; intro v' w6 hown6 hgrow6 hnn6; clear hnn6; obtain ⟨A6, c6, rfl⟩ := own_form hown6; obtain ⟨g6, rfl, _, _⟩ := own_some hown6 (by omega); have R6 := hideIt (R5.out.grow Ho5.out hgrow6); have hD6 := grow_run Ho5.out HD5.out hgrow6; have hq1 : w6.cell? ⟨D, 1, none⟩ = some (.int .i64 e) := cell_of_row w6 D 1 _ _ _ hD6; have hwe := Hwe2.out; have Ho6 := hideIt hown6; have HD6 := hideIt hD6; clear hgrow6 hown6 hD6)
              have hsz6 := R6.out.2.2.2.2.size
              clear hq1 hwe hfld
              refine (pilePush_any true hB w.heap.size _ (p + 1) cB Bs z.1 (e + rest) _ R6.out.1.1 hsz6 (by omega) R6.out.2.1.1).mono ?_
              rintro e7 w7 ⟨rfl, g7, c7, Bs7, hp7, hh7, hm7, hs7⟩
              have R7 := hideIt (R6.out.busy hp7 hh7 hs7)
              have Ho7 := hideIt (own_pstep Ho6.out R6.out.1.1 hs7 (by decide) (by decide))
              have HM7 := hideIt (HM5.out Bs7 hm7)
              have Hfl := hideIt (fl1_snoc ro z.1)
              have Hln := hideIt (show (ro ++ [z.1]).length = k + 1 by rw [List.length_append, Hlr.out]; rfl)
              clear hp7 hh7 hs7 hm7 R6 Ho6 HM5 Ho5 R5 HD5
              go_wp2
              go_roundw
              case rel => exact ⟨k + 1, tn + 1, g6, c6, ro ++ [z.1], some g7, some gI, (p + 1) + 1, c7, 0, cI2, Bs7, Is5, by omega, by go_num, by go_num, rfl, Hln.out, ⟨by have := Hnn.out; omega, by have := Hnn.out; omega⟩, by rw [Hfl.out]; exact Ho7.out, R7.out, HM7.out⟩
              case measure => simp [intOf]; omega
            · obtain ⟨pI, rfl⟩ : ∃ p, nI = p + 1 := ⟨nI - 1, by omega⟩
              obtain ⟨gI, hgI⟩ : ∃ g, oI = some g := by
                cases oI with
                | none => exact absurd (own_some HR.out.1.2.2.2 (by omega)) (by rintro ⟨_, q, _⟩; cases q)
                | some x => exact ⟨x, rfl⟩
              subst hgI
              have hcI2 : wr.cell? ⟨hI, 0, none⟩ = some (.slice (some ⟨gI, 0, none⟩) (pI + 1) cI) := hcI
              have hne0 : (((pI : Int) + 1) == (0 : Int)) = false := by simp; omega
              obtain ⟨cI2, hcIe⟩ : ∃ x, x = cI := ⟨_, rfl⟩
              subst hcIe
              obtain ⟨Is2, hIse⟩ : ∃ x, x = Is := ⟨_, rfl⟩
              subst hIse
              have HR2 := HR
              have Ho2 := Ho
              have HD2 := HD
              have HM2 := HM
              clear HR Ho HD HM hcI hnI
              go_wp2
              go_quiet (fail)
              go_wp2_with fail
              clear hcI2 hne0
              have hcall := fun (q : Nat) => pilePop_any false hI w.heap.size gI pI cI2 Is2 (wr.drewN q) HR2.out.1.2 (by omega) HR2.out.2.1.2
              refine (hcall _).mono ?_
              clear hcall
              rintro e5 w5 ⟨z, Is5, rfl, hp5, hh5, hm5, hl5, hs5⟩
              have hs5' : PStep wr w5 hI (some gI) (some gI) := hs5
              have R5 := hideIt (HR2.out.idle hp5 hh5 hs5')
              have Ho5 := hideIt (own_pstep Ho2.out HR2.out.1.2 hs5' (by decide) (by decide))
              have hoff := HR2.out.1.2.off HD2.out (by decide) (by decide)
              have HD5 := hideIt (hs5'.at HD2.out hoff.1 hoff.2)
              have HM5 : Hid (∀ Bs', (∀ u, u ∈ Bs' ↔ u = (z.1, e + rest) ∨ u ∈ Bs) → Mk rs rest (diffTo gro gro.length) (ro ++ [z.1]) Bs' Is5 (tn) (k + 1)) := hideIt (fun Bs' hB' => HM2.out.take Hlr.out hm5 (by rw [Hse.out.2]; exact hB'))
              have hz1' := HM2.out.2.1 z ((hm5 z).2 (.inl rfl))
              clear hp5 hh5 hs5 hs5' hoff HR2 Ho2 HD2 HM2 hl5 hm5
              have hsz5 := R5.out.2.2.2.2.size
              have Hwe2 := Hwe
              have hfld := field_team z.1 z.2
              go_wp2_with (at_builtin; refine wpList_append_own _ rfl (.tmp 70) (.tmp 72) 24 rfl w.heap.size 3 i0 _ 1 8 Try.underlying24 hi hz0' hz1 hz2 rfl (by decide) _ _ _ rfl (Ho5.out.alloc _) ⟨w5.heap.size, 0, none⟩ 1 1 [.int .i64 z.1] rfl rfl (cell_one_new _ _ _) (by simp [Value.oneCell']) (by unfold maxLen; omega) (by omega) (by simp; omega) ?_; intro v' w6 hown6 hgrow6 hnn6; clear hnn6; obtain ⟨A6, c6, rfl⟩ := own_form hown6; obtain ⟨g6, rfl, _, _⟩ := own_some hown6 (by omega); have R6 := hideIt (R5.out.grow Ho5.out hgrow6); have hD6 := grow_run Ho5.out HD5.out hgrow6; have hq1 : w6.cell? ⟨D, 1, none⟩ = some (.int .i64 e) := cell_of_row w6 D 1 _ _ _ hD6; have hwe := Hwe2.out; have Ho6 := hideIt hown6; have HD6 := hideIt hD6; clear hgrow6 hown6 hD6)
              have hsz6 := R6.out.2.2.2.2.size
              clear hq1 hwe hfld
              refine (pilePush_any true hB w.heap.size _ (p + 1) cB Bs z.1 (e + rest) _ R6.out.1.1 hsz6 (by omega) R6.out.2.1.1).mono ?_
              rintro e7 w7 ⟨rfl, g7, c7, Bs7, hp7, hh7, hm7, hs7⟩
              have R7 := hideIt (R6.out.busy hp7 hh7 hs7)
              have Ho7 := hideIt (own_pstep Ho6.out R6.out.1.1 hs7 (by decide) (by decide))
              have HM7 := hideIt (HM5.out Bs7 hm7)
              have Hfl := hideIt (fl1_snoc ro z.1)
              have Hln := hideIt (show (ro ++ [z.1]).length = k + 1 by rw [List.length_append, Hlr.out]; rfl)
              clear hp7 hh7 hs7 hm7 R6 Ho6 HM5 Ho5 R5 HD5
              go_wp2
              go_roundw
              case rel => exact ⟨k + 1, tn, g6, c6, ro ++ [z.1], some g7, some gI, (p + 1) + 1, c7, pI, cI2, Bs7, Is5, by omega, by go_num, by go_num, rfl, Hln.out, ⟨by have := Hnn.out; omega, by have := Hnn.out; omega⟩, by rw [Hfl.out]; exact Ho7.out, R7.out, HM7.out⟩
              case measure => simp [intOf]; omega
    · obtain rfl : k = m := by omega
      clear hr
      go_wp2
      go_ret2
      exact ⟨ro, g, c, rfl, Hlr.out, fun j hj => by have := HM0.out.2.2.2; have h1 := this.1 j hj; have h2 := this.2; omega, Ho0.out, HR0.out.2.2.2.2⟩
end Go.Proofs.Ytckjagpjljbohaa

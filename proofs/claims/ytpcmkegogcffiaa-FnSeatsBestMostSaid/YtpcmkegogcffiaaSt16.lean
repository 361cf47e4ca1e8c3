/- Walks: SeatsBest of the reference. -/
import Derived.Test.YtpcmkegogcffiaaSt15
namespace Go.Proofs.Ytpcmkegogcffiaa
open Go.RowKit

def encL (b : Bool) : List Value := [.bool b]
theorem encL_len (b : Bool) : (encL b).length = 1 := rfl
def flL (xs : List Bool) : List Value := xs.flatMap encL
theorem flL_len (xs : List Bool) : (flL xs).length = xs.length := by rw [flL, flat_length encL 1 encL_len xs, Nat.mul_one]
theorem flL_a (xs : List Bool) (k : Nat) (hk : k < xs.length) : (flL xs)[k]? = some (.bool (xs.getD k false)) := by
  have := flat_get encL 1 encL_len xs k 0 _ (getD_some xs k false hk) (by omega); rw [Nat.mul_one, Nat.add_zero] at this; exact this
theorem rowL_a {w : World} {base t g cap n : Nat} {xs : List Bool} (h : w.ownsRow base t 1 (.slice (some ⟨g, 0, none⟩) n cap) n (flL xs)) {k : Nat} (hk : k < xs.length) :
    w.cell? ⟨g, k, none⟩ = some (.bool (xs.getD k false)) := by
  have hl := h.1
  rw [flL_len] at hl
  exact (h.cellAt k (by omega)).trans (flL_a xs k hk)
theorem rowL_store {w : World} {base t g cap n : Nat} {xs : List Bool} (h : w.ownsRow base t 1 (.slice (some ⟨g, 0, none⟩) n cap) n (flL xs)) {k : Nat} (hk : k < xs.length) (v : Bool) :
    (w.setCell ⟨g, k, none⟩ (.bool v)).ownsRow base t 1 (.slice (some ⟨g, 0, none⟩) n cap) n (flL (xs.set k v)) := by
  have h1 := (h.stored k (.bool v)).1
  have := flat_set encL 1 encL_len xs k 0 _ v (.bool v) (getD_some xs k false hk) (by omega) rfl
  rw [Nat.mul_one, Nat.add_zero] at this
  have e : (flL xs).set k (.bool v) = flL (xs.set k v) := this
  rw [e] at h1
  exact h1
theorem madeL (n : Nat) : (madeCells #[.bool false] (n * 1)).toList = flL (List.replicate n false) := by
  rw [Nat.mul_one, toList_madeCells_one, flL]
  induction n with
  | zero => rfl
  | succ n ih => rw [List.replicate_succ, List.replicate_succ, List.flatMap_cons, ← ih]; rfl
theorem info_bool : (Try.prog.info? 4).map (fun i => (i.zero, i.size, i.bytes)) = some (some (.bool false), 1, 1) := by kernel_rfl
theorem outL_yes {ms : List Bool} {k : Nat} (h : ms.getD k false = true) : fl1 (outL ms (k + 1)) = fl1 (outL ms k) ++ [.int .i64 k] := by rw [outL, h, if_pos rfl, fl1_snoc]
theorem outL_no {ms : List Bool} {k : Nat} (h : ms.getD k false = false) : outL ms (k + 1) = outL ms k := by rw [outL, h]; simp

set_option maxRecDepth 100000 in
set_option maxHeartbeats 4000000 in
theorem specSeatsBest_any (n : Int) (A : Option Addr) (ls : List (Int × Int × Bool)) (m cap : Nat) (w : World) (hl : ls.length = m) (hm : m ≤ 1048576) (hr : Rd w A (flB ls)) :
    Calls Try.prog 36 #[.int .i64 n, .slice A m cap] w (RetSB w 3 1 (seatsBest n ls).length (fl1 (seatsBest n ls)) (bestOk n ls)) := by
  obtain ⟨i0, hi, hz0, hz1, hz2⟩ := info_parts info_int15
  obtain ⟨j0, hj, hy0, hy1, hy2⟩ := info_parts info_bool
  cases hv : bValid n ls
  · have hjf : bestOk n ls = false := by rw [bestOk, hv]; rfl
    rw [seatsBest_f hjf, hjf]
    have Hv := hideIt hv
    have Hl := hideIt hl
    clear hv hjf hl
    go_enter Try.func36, Try.ntmps36
    go_wp2_with (refine wpList_make_full _ rfl _ _ _ rfl w.heap.size 4 j0 _ 1 Try.underlying81 hj hy0 hy1 .i64 .i64 _ _ m rfl rfl rfl rfl (by rw [hy2]; omega) (by unfold maxLen; omega) (Nat.le_refl _) ?_; intro w1 hown0 hgrow)
    have hbw1 : Below w.heap.size w w1 := (Below.refl _ _).grown hgrow (Nat.le_refl _) (by simp)
    have hown : w1.ownsRow w.heap.size 4 1 (.slice (some ⟨w.heap.size, 0, none⟩) m m) m (flL (List.replicate m false)) := by rw [← madeL]; exact hown0
    clear hgrow hown0
    go_loopw [7, 8] (fun l t wr => l = .int .i64 0 ∧ t = .int .i64 1 ∧ wr = w1) (fun _ _ _ => 0)
    case atStart => exact ⟨rfl, rfl, rfl⟩
    case round =>
      obtain ⟨rfl, rfl, rfl⟩ := hrel
      by_cases h0 : 1 ≤ n
      · go_wp2_with fail
        refine (specBookingsValid_any _ _ _ _ _ _ _ Hl.out hm (hr.below hbw1 (Nat.le_refl _)) Hv.out).mono ?_
        rintro e w2 ⟨rfl, hb2⟩
        have hown2 := own_below hown hb2 (Nat.le_refl _)
        have hbw2 := hbw1.trans (hb2.mono hbw1.size)
        clear hown hbw1 hb2
        go_wp2
        go_loopw [10, 11] (fun o i wr => ∃ k : Nat, k ≤ m ∧ i = .int .i64 k ∧ o = .slice (some ⟨w2.heap.size, 0, none⟩) 0 0 ∧ wr = w2.alloc (.cells #[] 3)) (fun _ i _ => m - (intOf i).toNat)
        case atStart => exact ⟨0, by omega, rfl, rfl, rfl⟩
        case round =>
          obtain ⟨k, hk, rfl, rfl, rfl⟩ := hrel
          have hbo := hbw2.alloc hbw2.size (.cells #[] 3)
          by_cases hlt : k < m
          · have hcm := rowL_a hown2 (k := k) (by simp; omega)
            rw [show (List.replicate m false).getD k false = false by simp [hlt]] at hcm
            have hcm' := (World.cell?_alloc_some w2 ⟨w.heap.size, k, none⟩ (.cells #[] 3) (by rw [hcm]; rfl)).trans hcm
            go_wp2
            go_roundw
            case rel => exact ⟨k + 1, by omega, by go_num, rfl, trivial⟩
            case measure => simp [intOf]; omega
          · go_wp2_with fail
            refine (specBookingsValid_any _ _ _ _ _ _ _ Hl.out hm (hr.below hbo (Nat.le_refl _)) Hv.out).mono ?_
            rintro e w4 ⟨rfl, hb4⟩
            have hbf := hbo.trans (hb4.mono hbo.size)
            go_wp2
            go_ret2
            exact ⟨_, _, rfl, own_base (own_empty w4 3 1) hbf.size, hbf.alloc hbf.size _⟩
      · go_wp2
        go_loopw [10, 11] (fun o i wi => ∃ k : Nat, k ≤ m ∧ i = .int .i64 k ∧ o = .slice (some ⟨wr.heap.size, 0, none⟩) 0 0 ∧ wi = wr.alloc (.cells #[] 3)) (fun _ i _ => m - (intOf i).toNat)
        case atStart => exact ⟨0, by omega, rfl, rfl, rfl⟩
        case round =>
          obtain ⟨k, hk, rfl, rfl, rfl⟩ := hrel
          have hbo := hbw1.alloc hbw1.size (.cells #[] 3)
          by_cases hlt : k < m
          · have hcm := rowL_a hown (k := k) (by simp; omega)
            rw [show (List.replicate m false).getD k false = false by simp [hlt]] at hcm
            have hcm' := (World.cell?_alloc_some wr ⟨w.heap.size, k, none⟩ (.cells #[] 3) (by rw [hcm]; rfl)).trans hcm
            go_wp2
            go_roundw
            case rel => exact ⟨k + 1, by omega, by go_num, rfl, trivial⟩
            case measure => simp [intOf]; omega
          · go_wp2_with fail
            refine (specBookingsValid_any _ _ _ _ _ _ _ Hl.out hm (hr.below hbo (Nat.le_refl _)) Hv.out).mono ?_
            rintro e w4 ⟨rfl, hb4⟩
            have hbf := hbo.trans (hb4.mono hbo.size)
            go_wp2
            go_ret2
            exact ⟨_, _, rfl, own_base (own_empty w4 3 1) hbf.size, hbf.alloc hbf.size _⟩
  · obtain ⟨nn, rfl⟩ : ∃ nn : Nat, n = nn := Int.eq_ofNat_of_zero_le (by have := (bValid_parts hv).1; omega)
    obtain ⟨q1, q2, q3, q4, q5⟩ := bValid_parts hv
    have hje : bestOk nn ls = ls.all isIn := by rw [bestOk_is, hv]; rfl
    have Hje := hideIt hje
    have Hv := hideIt hv
    have Hall := hideIt q4
    have Hl := hideIt hl
    have Hst := hideIt (BestSt.start q4 q1)
    rw [hl] at q3 Hst
    obtain ⟨R, hR⟩ : ∃ R, seatsBest nn ls = R := ⟨_, rfl⟩
    obtain ⟨B, hB⟩ : ∃ B, bestOk nn ls = B := ⟨_, rfl⟩
    rw [hR, hB]
    have HR := hideIt hR
    have HB := hideIt hB
    have q7 : nn ≤ 7 := by omega
    clear hv q4 q5 hl hje hR hB
    go_enter Try.func36, Try.ntmps36
    go_wp2_with (refine wpList_make_full _ rfl _ _ _ rfl w.heap.size 4 j0 _ 1 Try.underlying81 hj hy0 hy1 .i64 .i64 _ _ m rfl rfl rfl rfl (by rw [hy2]; omega) (by unfold maxLen; omega) (Nat.le_refl _) ?_; intro w1 hown0 hgrow)
    have hbw1 : Below w.heap.size w w1 := (Below.refl _ _).grown hgrow (Nat.le_refl _) (by simp)
    have hown : w1.ownsRow w.heap.size 4 1 (.slice (some ⟨w.heap.size, 0, none⟩) m m) m (flL (List.replicate m false)) := by rw [← madeL]; exact hown0
    clear hgrow hown0
    go_loopw [7, 8] (fun l t wr => ∃ (tt : Nat) (ms : List Bool) (la : Int), l = .int .i64 la ∧ t = .int .i64 tt ∧ 1 ≤ tt ∧ tt ≤ nn + 1 ∧ BestSt ls tt 0 ms la ∧ (tt = 1 ∨ ls.all isIn = true) ∧ wr.ownsRow w.heap.size 4 1 (.slice (some ⟨w.heap.size, 0, none⟩) m m) m (flL ms) ∧ Below w.heap.size w wr) (fun _ t _ => nn + 1 - (intOf t).toNat)
    case atStart => exact ⟨1, _, 0, rfl, rfl, by omega, by omega, Hst.out, .inl rfl, hown, hbw1⟩
    case round =>
      clear hown hbw1
      obtain ⟨tt, ms, la, rfl, rfl, t1, t2, hst, hor, hrow, hbw⟩ := hrel
      have HSt : Hid (BestSt ls tt 0 ms la) := hst
      have Hor : Hid (tt = 1 ∨ ls.all isIn = true) := hor
      clear hst hor
      by_cases hlt : tt ≤ nn
      · go_wp2_with fail
        refine (specBookingsValid_any _ _ _ _ _ _ _ Hl.out hm (hr.below hbw (Nat.le_refl _)) Hv.out).mono ?_
        rintro e w2 ⟨rfl, hb2⟩
        have hrow2 := own_below hrow hb2 (Nat.le_refl _)
        have hbw2 := hbw.trans (hb2.mono hbw.size)
        clear hrow hbw hb2
        go_wp2
        go_loopw [7, 9] (fun l i wr => ∃ (k : Nat) (ms : List Bool) (la : Int), l = .int .i64 la ∧ i = .int .i64 k ∧ k ≤ m ∧ BestSt ls tt k ms la ∧ (ls.drop k).all isIn = ls.all isIn ∧ wr.ownsRow w.heap.size 4 1 (.slice (some ⟨w.heap.size, 0, none⟩) m m) m (flL ms) ∧ Below w.heap.size w wr) (fun _ i _ => m - (intOf i).toNat)
        case atStart => exact ⟨0, ms, la, rfl, rfl, by omega, HSt.out, rfl, hrow2, hbw2⟩
        case round =>
          clear hrow2 hbw2 HSt
          obtain ⟨k, ms, la, rfl, rfl, hk, hst, hrec, hrow, hbw⟩ := hrel
          have HSt : Hid (BestSt ls tt k ms la) := hst
          have Hrec := hideIt hrec
          have hla := hst.last
          have Hlm := hideIt (hst.len.trans Hl.out)
          clear hst hrec
          by_cases hlk : k < m
          · have hlp : k < ls.length := by rw [Hl.out]; exact hlk
            obtain ⟨b, off, rfl, hb, hc⟩ := (hr.below hbw (Nat.le_refl _)).atB hlp
            obtain ⟨hx, hy, hz⟩ := hc k hlp
            have hsti := all_step isIn ls k (0, 0, false) hlp
            rw [isIn_at] at hsti
            obtain ⟨p1, p2, p3⟩ := Hall.out k hlp
            clear hc
            cases he : cB ls k
            · rw [he] at hz hsti
              have hf : ls.all isIn = false := by rw [← Hrec.out, hsti]; rfl
              have Hb := hideIt (show bestOk nn ls = false by rw [Hje.out, hf])
              clear he hsti hf
              go_wp2
              go_ret2
              rw [← HR.out, ← HB.out, seatsBest_f Hb.out, Hb.out]
              exact ⟨_, _, rfl, own_base (own_empty _ 3 1) hbw.size, hbw.alloc hbw.size _⟩
            · rw [he] at hz hsti
              have Hsti := hideIt hsti
              clear he hsti
              by_cases hbt : bB ls k = tt
              · rw [hbt] at hy p2 p3
                by_cases hal : la ≤ aB ls k
                · have hfr := fun j => hrow.frozenAt j
                  obtain ⟨cv, hcm⟩ : ∃ v, wr.cell? ⟨w.heap.size, k, none⟩ = some (.bool v) := ⟨_, rowL_a hrow (k := k) (by rw [Hlm.out]; exact hlk)⟩
                  have hsto := rowL_store hrow (k := k) (by rw [Hlm.out]; exact hlk) true
                  have Hnx := hideIt (HSt.out.take Hall.out q2 hlp hbt hal)
                  have hwx : IntKind.i64.wrap 0 = 0 := rfl
                  clear hbt hlp
                  go_wp2
                  go_roundw
                  case rel => exact ⟨k + 1, _, tt, rfl, by go_num, by omega, Hnx.out, by rw [← Hrec.out, Hsti.out, Bool.true_and], hsto, hbw.setCell (p := ⟨w.heap.size, k, none⟩) (Nat.le_refl _) _⟩
                  case measure => simp [intOf]; omega
                · have Hnx := hideIt (HSt.out.skip (fun c => hal c.2))
                  clear hbt hlp
                  go_wp2
                  go_roundw
                  case rel => exact ⟨k + 1, ms, la, rfl, by go_num, by omega, Hnx.out, by rw [← Hrec.out, Hsti.out, Bool.true_and], hrow, hbw⟩
                  case measure => simp [intOf]; omega
              · have Hnx := hideIt (HSt.out.skip (fun c => hbt c.1))
                have hne : (bB ls k == (tt : Int)) = false := by simpa using hbt
                clear hlp
                go_wp2
                go_roundw
                case rel => exact ⟨k + 1, ms, la, rfl, by go_num, by omega, Hnx.out, by rw [← Hrec.out, Hsti.out, Bool.true_and], hrow, hbw⟩
                case measure => simp [intOf]; omega
          · obtain rfl : k = m := by omega
            have Hin := hideIt (show ls.all isIn = true by rw [← Hrec.out, List.drop_eq_nil_of_le (by rw [Hl.out]; omega)]; rfl)
            have Hnx := hideIt (HSt.out.next (by rw [Hl.out]; omega))
            go_wp2
            go_roundw
            case rel => exact ⟨tt + 1, ms, la, rfl, by go_num, by omega, by omega, by have := Hnx.out; rw [Int.natCast_add]; exact this, .inr Hin.out, hrow, hbw⟩
            case measure => simp [intOf]; omega
      · have hin : ls.all isIn = true := by rcases Hor.out with h | h; omega; exact h
        have hb' : bestOk nn ls = true := by rw [Hje.out, hin]
        have HRo := hideIt (show outL ms m = R by rw [← Hl.out, HSt.out.done Hall.out (by omega), ← HR.out, seatsBest_t hb'])
        obtain rfl : B = true := by rw [← HB.out, hb']
        have Hlm := hideIt (HSt.out.len.trans Hl.out)
        obtain ⟨wz, hwz⟩ : ∃ x, x = wr := ⟨_, rfl⟩
        subst hwz
        have ho := own_empty wz 3 1
        have hB0 := (Below.refl wz.heap.size wz).alloc (Nat.le_refl _) (.cells #[] 3)
        have hbo := hbw.alloc hbw.size (.cells #[] 3)
        have hsz := hbw.size
        clear hin hb' HR HB HSt Hor Hje Hst
        go_wp2
        go_loopw [10, 11] (fun o i wi => ∃ k q : Nat, k ≤ m ∧ q ≤ k ∧ i = .int .i64 k ∧ wi.ownsRow wz.heap.size 3 1 o q (fl1 (outL ms k)) ∧ Below wz.heap.size wz wi ∧ Below w.heap.size w wi) (fun _ i _ => m - (intOf i).toNat)
        case atStart => exact ⟨0, 0, by omega, by omega, rfl, ho, hB0, hbo⟩
        case round =>
          clear ho hB0 hbo
          obtain ⟨k, q, hk, hq, rfl, horow, hB, hbo⟩ := hrel
          by_cases hlk : k < m
          · have hcm := rowL_a hrow (k := k) (by rw [Hlm.out]; exact hlk)
            have lw := World.block_lt_of_cell? wz _ hcm
            have hcm' := (hB.cell (p := ⟨w.heap.size, k, none⟩) lw).trans hcm
            clear hcm
            cases hmk : ms.getD k false
            · rw [hmk] at hcm'
              have Hmk := hideIt hmk
              clear hmk
              go_wp2
              go_roundw
              case rel => exact ⟨k + 1, q, by omega, by omega, by go_num, by rw [outL_no Hmk.out]; exact horow, hB, hbo⟩
              case measure => simp [intOf]; omega
            · rw [hmk] at hcm'
              have Hmk := hideIt hmk
              clear hmk
              go_wp2_with (at_builtin; refine wpList_append_own _ rfl (.tmp 69) (.tmp 71) 26 rfl wz.heap.size 3 i0 _ 1 8 Try.underlying26 hi hz0 hz1 hz2 rfl (by decide) _ _ _ rfl (horow.alloc _) ⟨_, 0, none⟩ 1 1 [.int .i64 ((k : Int))] rfl rfl (cell_one_new _ _ _) (by simp [Value.oneCell']) (by unfold maxLen; omega) (by omega) ((by have := hB.size; simp; omega)) ?_; intro v' wn hown' hgrow hnn; clear hnn)
              go_roundw
              case rel => exact ⟨k + 1, q + 1, by omega, by omega, by go_num, by rw [outL_yes Hmk.out]; exact hown', (hB.alloc hB.size _).grown hgrow (Nat.le_trans hB.size (by simp)) (fun g hg => (horow.lt g hg).1), (hbo.alloc hbo.size _).grown hgrow (Nat.le_trans hbo.size (by simp)) (fun g hg => Nat.le_trans hsz (horow.lt g hg).1)⟩
              case measure => simp [intOf]; omega
          · obtain rfl : k = m := by omega
            rw [HRo.out] at horow
            have HRq := hideIt (row_len enc1_len (by omega) horow)
            obtain ⟨A', c', rfl⟩ := own_form horow
            go_wp2_with fail
            refine (specBookingsValid_any _ _ _ _ _ _ _ Hl.out hm (hr.below hbo (Nat.le_refl _)) Hv.out).mono ?_
            rintro e w4 ⟨rfl, hb4⟩
            go_wp2
            go_ret2
            rw [HRq.out]
            exact ⟨_, _, rfl, own_base (own_below horow hb4 (Nat.le_refl _)) hsz, hbo.trans (hb4.mono hbo.size)⟩
end Go.Proofs.Ytpcmkegogcffiaa

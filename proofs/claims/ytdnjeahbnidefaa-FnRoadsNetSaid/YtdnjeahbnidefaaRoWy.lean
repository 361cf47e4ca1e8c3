/- Walks: RoadsWay of the program. -/
import Derived.Test.YtdnjeahbnidefaaNexts
namespace Go.Proofs.Ytdnjeahbnidefaa
open Go.RowKit

set_option maxRecDepth 100000 in
set_option maxHeartbeats 4000000 in
theorem implRoadsWay_any (n : Int) (A : Option Addr) (rs : List (Int × Int × Int)) (m cap : Nat) (a b : Int) (w : World) (hl : rs.length = m) (hm : m ≤ 1048576) (hr : Rd w A (fl3 rs)) (ha : IntOk a) (hb : IntOk b) :
    Calls Try.prog 20 #[.int .i64 n, .slice A m cap, .int .i64 a, .int .i64 b] w (RetSB w 3 1 (roadsWay n rs a b).length (fl1 (roadsWay n rs a b)) (decide (0 ≤ roadsFar n rs a b))) := by
  have Hl := hideIt hl
  clear hl
  obtain ⟨f, hf⟩ : ∃ f, roadsFar n rs a b = f := ⟨_, rfl⟩
  by_cases hneg : f < 0
  · rw [roadsWay_f (by omega), hf, decide_eq_false (by omega)]
    have Hf := hideIt hf
    clear hf
    go_enter Try.func20, Try.ntmps20
    go_wp2_with fail
    refine (implRoadsFar_any _ _ _ _ _ _ _ _ Hl.out hm hr ha hb).mono ?_
    rw [Hf.out]
    rintro e w1 ⟨rfl, hb1⟩
    go_wp2
    go_ret2
    exact ⟨_, _, rfl, own_base (own_empty w1 3 1) hb1.size, hb1.alloc hb1.size _⟩
  obtain ⟨i0, hi, hz0, hz1, hz2⟩ := info_parts info_intF
  obtain ⟨nn, s, t, rfl, rfl, rfl, hs, ht, hrv, hv, hfd⟩ := roadsFar_at (show 0 ≤ roadsFar n rs a b by omega)
  have h0t : 0 ≤ dist nn rs t s := by rw [← hrv.dist_comm hs ht]; omega
  have hwl := hrv.wayTown_len ht hs h0t
  have h8 : dist nn rs t s ≤ 800 := by rcases hrv.dist_at ht hs with ⟨e, _⟩ | ⟨_, e, _⟩ <;> omega
  rw [roadsWay_t (by omega), castL_len, hf, decide_eq_true (show 0 ≤ f by omega)]
  obtain ⟨W, hW⟩ : ∃ W, wayTown nn rs s t = W := ⟨_, rfl⟩
  rw [hW]
  have HW := hideIt (show wayN nn rs t (dist nn rs t s).toNat s = W from hW)
  have Hf := hideIt hf
  have Hv := hideIt hv
  have Hrv : Hid (RV nn rs) := hideIt hrv
  have hf0 : 0 ≤ f := by omega
  have n8 := hrv.n8
  rw [hW] at hwl
  have Hwl := hideIt hwl
  clear hf hneg hrv hv hfd hW hwl
  go_enter Try.func20, Try.ntmps20
  go_wp2_with fail
  refine (implRoadsFar_any _ _ _ _ _ _ _ _ Hl.out hm hr ha hb).mono ?_
  rw [Hf.out]
  rintro e w1 ⟨rfl, hb1⟩
  go_wp2_with fail
  refine (mapRoads_any _ _ _ _ _ _ _ Hl.out hm (hr.below hb1 (Nat.le_refl _)) Hv.out).mono ?_
  rintro e w2 ⟨v, rfl, hb2, hmk⟩
  obtain ⟨bm, m', g, hm', rfl, hmap⟩ := hmk rfl
  obtain rfl : nn = m' := by omega
  have b2 := hb1.trans (hb2.mono hb1.size)
  clear hmk hm' hb1 hb2
  go_wp2_with fail
  refine (distances_any _ _ _ _ _ _ _ Hrv.out ht hmap).mono ?_
  rintro e w3 ⟨fb, rfl, hfb, him, hb3⟩
  have b3 := b2.trans (hb3.mono b2.size)
  have hm3 := hmap.below hb3 (Nat.le_refl _)
  obtain ⟨st, hst⟩ : ∃ st, reach nn rs t = st := ⟨_, rfl⟩
  rw [hst] at him
  have hlit := World.ownsRow_lit (base := w3.heap.size) (e := 3) (size := 1) w3 #[.int .i64 s] 1 (Nat.le_refl _) (by unfold maxLen; omega) rfl
  have bl := (Below.refl w3.heap.size w3).alloc (Nat.le_refl _) (.cells #[.int .i64 s] 3)
  clear hst hmap hb3 b2
  go_wp2
  go_loopw [13, 14] (fun o p wr => ∃ (cur fu L c : Nat) (P : List Nat) (B : Option Addr), cur < nn ∧ p = .int .i64 cur ∧ Hid (0 ≤ dist nn rs t cur ∧ (dist nn rs t cur).toNat ≤ fu) ∧ (L : Int) + dist nn rs t cur ≤ 801 ∧ 0 ≤ dist nn rs t cur ∧ P.length + 1 = L ∧ Hid (P ++ wayN nn rs t fu cur = W) ∧ o = .slice B L c ∧ wr.ownsRow w3.heap.size 3 1 (.slice B L c) L (fl1 (castL (P ++ [cur]))) ∧ Below w3.heap.size w3 wr) (fun _ p _ => (dist nn rs t (intOf p).toNat).toNat)
  case atStart => exact ⟨s, _, 1, 1, [], _, hs, rfl, hideIt ⟨h0t, Nat.le_refl _⟩, by omega, h0t, rfl, hideIt HW.out, rfl, hlit, bl⟩
  case round =>
    obtain ⟨cur, fu, L, c, P, B, hcn, rfl, Hd, hLd, hd0, hPl, Hway, rfl, hrow, hbw⟩ := hrel
    have hsz := hbw.size
    have HP := hideIt hPl
    clear hPl hlit bl
    by_cases hct : cur = t
    · subst hct
      have Hend := hideIt (show P ++ [cur] = W by rw [← Hway.out, wayN_end])
      have HLW := hideIt (show L = W.length by rw [← Hend.out, List.length_append, ← HP.out]; rfl)
      rw [Hend.out] at hrow
      go_wp2
      go_ret2
      rw [← HLW.out]
      exact ⟨_, _, rfl, own_base hrow b3.size, b3.trans (hbw.mono b3.size)⟩
    · have hne : ((cur : Int) == (t : Int)) = false := by simp; omega
      obtain ⟨fu, hfu⟩ := Hrv.out.fuel_pos ht hcn Hd.out.1 Hd.out.2 hct
      obtain ⟨f1, f2, _, f4⟩ := Hrv.out.first_at ht hcn Hd.out.1 hct
      obtain ⟨_, f5, f6, _⟩ := Hrv.out.nx_less ht hcn Hd.out.1 f2
      have hfst : (nxs nn rs t cur).getD 0 0 = first nn rs t cur := rfl
      obtain ⟨nxt, hnxt⟩ : ∃ q, first nn rs t cur = q := ⟨_, rfl⟩
      have Hway2 := hideIt (show (P ++ [cur]) ++ wayN nn rs t fu nxt = W by
        have := Hway.out
        rw [hfu, wayN_step hct, hnxt] at this
        rw [← this, List.append_assoc]
        rfl)
      rw [hnxt] at f1 f5 f6 hfst
      have Hd2 := hideIt (show 0 ≤ dist nn rs t nxt ∧ (dist nn rs t nxt).toNat ≤ fu from ⟨f5, by have := Hd.out; omega⟩)
      have Hf6 := hideIt f6
      have Hf4 := hideIt f4
      have Hfst := hideIt hfst
      have hr3 := hm3.below hbw (Nat.le_refl _)
      have hi3 := him.below hbw (Nat.le_refl _)
      clear hct hfu hnxt f2 hfst
      go_wp2_with fail
      refine (nexts_any _ _ _ _ _ _ _ _ _ _ Hrv.out ht hcn hd0 hr3 hi3).mono ?_
      rintro e w4 ⟨A4, c4, rfl, ho4, hb4⟩
      obtain ⟨b4, rfl, _, _⟩ := own_some ho4 Hf4.out
      have hcell := row1_a ho4 (k := 0) (by rw [castL_len]; exact Hf4.out)
      rw [castL_at, Hfst.out] at hcell
      have hrow4 := own_below hrow hb4 (Nat.le_refl _)
      have bw4 := hbw.trans (hb4.mono hsz)
      have hsz4 := bw4.size
      have hpos : (0 : Int) < ((nxs nn rs t cur).length : Int) := by have := Hf4.out; omega
      have Hfl := hideIt (show fl1 (castL ((P ++ [cur]) ++ [nxt])) = fl1 (castL (P ++ [cur])) ++ [.int .i64 (nxt : Int)] by rw [castL_snoc, fl1_snoc])
      clear hrow hbw hb4 ho4 hr3 hi3 f4
      go_wp2_with (at_builtin; refine wpList_append_own _ rfl (.tmp 43) (.tmp 45) 26 rfl w3.heap.size 3 i0 _ 1 8 Try.underlying26 hi hz0 hz1 hz2 rfl (by decide) _ _ _ rfl (hrow4.alloc _) ⟨_, 0, none⟩ 1 1 [.int .i64 (nxt : Int)] rfl rfl (cell_one_new _ _ _) (by simp [Value.oneCell']) (by unfold maxLen; omega) (by omega) (by simp; omega) ?_; intro v' wn hown' hgrow hnn; clear hnn)
      obtain ⟨A7, c7, rfl⟩ := own_form hown'
      have b7 := (bw4.alloc hsz4 (.cells #[.int .i64 (nxt : Int)] 3)).grown hgrow (Nat.le_trans hsz4 (by simp)) (fun g hg => (hrow4.lt g hg).1)
      clear hgrow hrow4 bw4 hcell
      go_wp2
      go_roundw
      case rel => exact ⟨nxt, fu, L + 1, c7, P ++ [cur], A7, f1, rfl, Hd2, by have := Hf6.out; push_cast; omega, f5, by rw [List.length_append, ← HP.out]; rfl, Hway2, rfl, by rw [Hfl.out]; exact hown', b7⟩
      case measure => have := Hf6.out; have := Hd2.out; simp [intOf]; omega
end Go.Proofs.Ytdnjeahbnidefaa

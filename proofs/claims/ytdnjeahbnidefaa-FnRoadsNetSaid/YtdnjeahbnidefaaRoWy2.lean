/- Walks: RoadsWay of the reference. -/
import Derived.Test.YtdnjeahbnidefaaRoWy
import Derived.Test.YtdnjeahbnidefaaRoWhole
import Derived.Test.YtdnjeahbnidefaaRo7
import Derived.BigQuiet
import Derived.Deep.QuietTactic
namespace Go.Proofs.Ytdnjeahbnidefaa
open Go.RowKit

theorem l1Find_q (A : Option Addr) (rs : List (Int × Int × Int)) (m cap : Nat) (a b r : Int) (w : World) (hl : rs.length = m) (hm : m ≤ 1048576) (hr : Rd w A (fl3 rs)) (hf : find1 rs a b = r) :
    Calls Try.prog 54 #[.slice A m cap, .int .i64 a, .int .i64 b] w fun e w' => e = .returned (.int .i64 r) ∧ w' = w :=
  (l1Find_any A rs m cap a b w hl hm hr).mono fun _ _ ⟨h1, h2⟩ => ⟨by rw [h1, hf], h2.symm⟩
theorem below_dN {B : Nat} {w w' : World} (h : Below B w w') (n : Nat) : Below B w (w'.drewN n) := by
  induction n with
  | zero => exact h
  | succ n ih => exact ih.drew
set_option maxRecDepth 100000 in
set_option maxHeartbeats 4000000 in
theorem specRoadsWay_any (n : Int) (A : Option Addr) (rs : List (Int × Int × Int)) (m cap : Nat) (a b : Int) (w : World) (hl : rs.length = m) (hm : m ≤ 1048576) (hr : Rd w A (fl3 rs)) (ha : IntOk a) (hb : IntOk b) :
    Calls Try.prog 28 #[.int .i64 n, .slice A m cap, .int .i64 a, .int .i64 b] w (RetSB w 3 1 (roadsWay n rs a b).length (fl1 (roadsWay n rs a b)) (decide (0 ≤ roadsFar n rs a b))) := by
  have Hl := hideIt hl
  clear hl
  obtain ⟨f, hf⟩ : ∃ f, roadsFar n rs a b = f := ⟨_, rfl⟩
  by_cases hneg : f < 0
  · rw [roadsWay_f (by omega), hf, decide_eq_false (by omega)]
    have Hf := hideIt hf
    clear hf
    go_enter Try.func28, Try.ntmps28
    go_wp2_with fail
    refine (specRoadsFar_any _ _ _ _ _ _ _ _ Hl.out hm hr ha hb).mono ?_
    rw [Hf.out]
    rintro e w1 ⟨rfl, hb1⟩
    go_wp2
    go_ret2
    exact ⟨_, _, rfl, own_base (own_empty w1 3 1) hb1.size, hb1.alloc hb1.size _⟩
  obtain ⟨i0, hi, hz0, hz1, hz2⟩ := info_parts info_intF
  obtain ⟨nn, s, t, rfl, rfl, rfl, hs, ht, hrv, hv, hfd⟩ := roadsFar_at (show 0 ≤ roadsFar n rs a b by omega)
  have h0t : 0 ≤ dist nn rs t s := by rw [← hrv.dist_comm hs ht]; omega
  have hwl := hrv.wayTown_len ht hs h0t
  have h8 : dist nn rs t s ≤ 800 := by rcases hrv.dist_at ht hs with ⟨e, _⟩ | ⟨_, e, _⟩ <;> omega
  rw [roadsWay_t (by omega), castL_len, hf, decide_eq_true (show 0 ≤ f by omega)]
  obtain ⟨W, hW⟩ : ∃ W, wayTown nn rs s t = W := ⟨_, rfl⟩
  rw [hW]
  have HW := hideIt (show wayN nn rs t (dist nn rs t s).toNat s = W from hW)
  have Hf := hideIt hf
  have Hrv : Hid (RV nn rs) := hideIt hrv
  have hf0 : 0 ≤ f := by omega
  have n8 := hrv.n8
  have l16 := hrv.l16
  rw [Hl.out] at l16
  rw [hW] at hwl
  have Hwl := hideIt hwl
  have Hlf := hideIt (hrv.farList_len ht)
  clear hf hneg hrv hv hfd hW hwl
  go_enter Try.func28, Try.ntmps28
  go_wp2_with fail
  refine (specRoadsFar_any _ _ _ _ _ _ _ _ Hl.out hm hr ha hb).mono ?_
  rw [Hf.out]
  rintro e w1 ⟨rfl, hb1⟩
  go_wp2_with fail
  refine (l1Far_any _ _ _ _ _ _ _ Hl.out (hr.below hb1 (Nat.le_refl _)) Hrv.out ht).mono ?_
  rintro e w3 ⟨gf, cf, rfl, hrowF, hb2⟩
  have b3 := hb1.trans (hb2.mono hb1.size)
  have hr3 := hr.below b3 (Nat.le_refl _)
  have hlit := World.ownsRow_lit (base := w3.heap.size) (e := 3) (size := 1) w3 #[.int .i64 s] 1 (Nat.le_refl _) (by unfold maxLen; omega) rfl
  have bl := (Below.refl w3.heap.size w3).alloc (Nat.le_refl _) (.cells #[.int .i64 s] 3)
  clear hb1 hb2 hr
  go_wp2
  go_loopw [2, 11] (fun p o wr => ∃ (cur fu L c : Nat) (P : List Nat) (B : Option Addr), cur < nn ∧ p = .int .i64 cur ∧ Hid (0 ≤ dist nn rs t cur ∧ (dist nn rs t cur).toNat ≤ fu) ∧ (L : Int) + dist nn rs t cur ≤ 801 ∧ 0 ≤ dist nn rs t cur ∧ P.length + 1 = L ∧ Hid (P ++ wayN nn rs t fu cur = W) ∧ o = .slice B L c ∧ wr.ownsRow w3.heap.size 3 1 (.slice B L c) L (fl1 (castL (P ++ [cur]))) ∧ Below w3.heap.size w3 wr) (fun p _ _ => (dist nn rs t (intOf p).toNat).toNat)
  case atStart => exact ⟨s, _, 1, 1, [], _, hs, rfl, hideIt ⟨h0t, Nat.le_refl _⟩, by omega, h0t, rfl, hideIt HW.out, rfl, hlit, bl⟩
  case round =>
    obtain ⟨cur, fu, L, c, P, B, hcn, rfl, Hd, hLd, hd0, hPl, Hway, rfl, hrow, hbw⟩ := hrel
    have HP := hideIt hPl
    clear hPl hlit bl
    by_cases hct : cur = t
    · subst hct
      have Hend := hideIt (show P ++ [cur] = W by rw [← Hway.out, wayN_end])
      have HLW := hideIt (show L = W.length by rw [← Hend.out, List.length_append, ← HP.out]; rfl)
      rw [Hend.out] at hrow
      go_wp2
      go_ret2
      rw [← HLW.out]
      exact ⟨_, _, rfl, own_base hrow b3.size, b3.trans (hbw.mono b3.size)⟩
    · have hne : ((cur : Int) == (t : Int)) = false := by simp; omega
      have hnn : ((cur : Int) != (t : Int)) = true := by simp; omega
      obtain ⟨fu, hfu⟩ := Hrv.out.fuel_pos ht hcn Hd.out.1 Hd.out.2 hct
      obtain ⟨f1, f2, f3, f4⟩ := Hrv.out.first_at ht hcn Hd.out.1 hct
      obtain ⟨_, f5, f6, f7⟩ := Hrv.out.nx_less ht hcn Hd.out.1 f2
      obtain ⟨nxt, hnxt⟩ : ∃ q, first nn rs t cur = q := ⟨_, rfl⟩
      have Hway2 := hideIt (show (P ++ [cur]) ++ wayN nn rs t fu nxt = W by
        have := Hway.out
        rw [hfu, wayN_step hct, hnxt] at this
        rw [← this, List.append_assoc]
        rfl)
      rw [hnxt] at f1 f2 f3 f5 f6 f7
      have Hd2 := hideIt (show 0 ≤ dist nn rs t nxt ∧ (dist nn rs t nxt).toNat ≤ fu from ⟨f5, by have := Hd.out; omega⟩)
      have Hf6 := hideIt f6
      have Hf2 := hideIt f2
      have Hf3 : Hid (∀ v, v < nxt → nx nn rs t cur v = false) := hideIt f3
      have Hne2 := hideIt f7
      obtain ⟨da, hda⟩ : ∃ d, dist nn rs t cur = d := ⟨_, rfl⟩
      have Hfar : Hid (∀ v : Nat, 1 ≤ edge rs cur v → v < nn ∧ 0 ≤ dist nn rs t v ∧ dist nn rs t v ≤ 800 ∧ a1 (farList nn rs t) v = dist nn rs t v) := hideIt (fun v he => by
        obtain ⟨_, _, _, _, v0, vn, _⟩ := Hrv.out.edge_pos (show 0 ≤ edge rs cur v by omega)
        have hvn : v < nn := by omega
        have hc := ((Hrv.out.dist_ge_iff ht hcn).1 Hd.out.1).trans (Cn.one (e := eN rs) hcn hvn he)
        have h1 := (Hrv.out.dist_ge_iff ht hvn).2 hc
        have h2 := dist_small ((Hrv.out.far_iff ht hvn).2 h1)
        rcases Hrv.out.dist_at ht hvn with ⟨e, _⟩ | ⟨_, e, _⟩
        · omega
        · exact ⟨hvn, h1, e, h2.symm⟩)
      have hfa := dist_small ((Hrv.out.far_iff ht hcn).2 Hd.out.1)
      have hda8 : da ≤ 800 := by rcases Hrv.out.dist_at ht hcn with ⟨e, _⟩ | ⟨_, e, _⟩ <;> omega
      have hcellA := row1_a hrowF (k := cur) (by rw [Hlf.out]; exact hcn)
      rw [← hfa, hda] at hcellA
      rw [hda] at hd0 hLd
      have Hda := hideIt hda
      have hblkF := (hrowF.lt gf rfl).2
      have hcni : (cur : Int) < (nn : Int) := by omega
      clear hct hfu hnxt f2 f3 f4 f5 f6 f7 hfa hda
      go_wp2
      go_loopw [12] (fun i wi => ∃ (v : Nat), v ≤ nxt ∧ i = .int .i64 v ∧ wi.ownsRow w3.heap.size 3 1 (.slice B L c) L (fl1 (castL (P ++ [cur]))) ∧ Below w3.heap.size w3 wi) (fun i _ => nxt - (intOf i).toNat)
      case atStart => exact ⟨0, by omega, rfl, hrow, hbw⟩
      case round =>
        obtain ⟨v, hvx, rfl, hrow2, bd⟩ := hrel
        clear hrow hbw
        have hvn : v < nn := by omega
        have hvni : (v : Int) < (nn : Int) := by omega
        have hcA := (bd.cell (p := ⟨gf, cur, none⟩) hblkF).trans hcellA
        have hrd := hr3.below bd (Nat.le_refl _)
        have hvw : IntKind.i64.wrap ((v : Int) + 1) = (v : Int) + 1 := IntWalk.i64_in _ (by omega)
        by_cases hvc : v = cur
        · subst hvc
          have hlt : v < nxt := by have := Hne2.out; omega
          clear hrd
          go_wp2
          go_quiet (fail)
          go_wp2
          go_roundw
          case rel => exact ⟨v + 1, by omega, by go_num, ownD hrow2 _, below_dN bd _⟩
          case measure => simp [intOf]; omega
        · have hvb : ((v : Int) == (cur : Int)) = false := by simp; omega
          rcases edge_cases rs cur v with ⟨he1, he2, _⟩ | ⟨j, hj, he2, _, he4⟩
          · have hlt : v < nxt := by
              rcases Nat.lt_or_ge v nxt with h | h
              · exact h
              · have e : v = nxt := by omega
                have := (nx_iff.1 Hf2.out).1
                rw [← e] at this
                unfold eN at this
                omega
            have Hfi := hideIt he2
            clear he1 he2
            go_wp2
            go_quiet ((go_at_call 54; exact Calls.quiet_of_same (l1Find_q _ _ _ _ _ _ _ _ Hl.out hm hrd Hfi.out)))
            go_wp2
            go_roundw
            case rel => exact ⟨v + 1, by omega, by go_num, ownD hrow2 _, below_dN bd _⟩
            case measure => simp [intOf]; omega
          · obtain ⟨ed, hed⟩ : ∃ d, c3 rs j = d := ⟨_, rfl⟩
            obtain ⟨_, _, _, r4, r5⟩ := Hrv.out.road j hj
            rw [hed] at he4 r4 r5
            obtain ⟨_, d0, d8, dfl⟩ := Hfar.out v (by omega)
            obtain ⟨dx, hdx⟩ : ∃ d, dist nn rs t v = d := ⟨_, rfl⟩
            rw [hdx] at d0 d8 dfl
            have hcV := row1_a hrowF (k := v) (by rw [Hlf.out]; exact hvn)
            rw [dfl] at hcV
            have hcV2 := (bd.cell (p := ⟨gf, v, none⟩) hblkF).trans hcV
            obtain ⟨br, offr, rfl, hblk, hcc⟩ := hrd.at3 hj
            obtain ⟨_, _, hcR⟩ := hcc j hj
            rw [hed] at hcR
            have Hfi := hideIt he2
            have hjm : (j : Int) < (m : Int) := by rw [← Hl.out]; omega
            have hj0 : ¬ (j : Int) < 0 := by omega
            have hsum := IntWalk.i64_in (ed + dx) (by omega)
            have Hnxv := hideIt (show nx nn rs t cur v = decide (ed + dx = da) by
              unfold nx eN
              rw [he4, hdx, Hda.out, decide_eq_true r4, Bool.true_and])
            clear hed hdx dfl hcV hcc he2 he4 hj
            by_cases hq : ed + dx = da
            · have hex : v = nxt := by
                rcases Nat.lt_or_ge v nxt with h | h
                · have := Hf3.out v h
                  rw [Hnxv.out, decide_eq_true hq] at this
                  cases this
                · omega
              subst hex
              have hqb : (ed + dx == da) = true := by simpa using hq
              have hqn : (ed + dx != da) = false := by simpa using hq
              have Hfl := hideIt (show fl1 (castL ((P ++ [cur]) ++ [v])) = fl1 (castL (P ++ [cur])) ++ [.int .i64 (v : Int)] by rw [castL_snoc, fl1_snoc])
              have f1v : v < nn := f1
              have Hq := hideIt hq
              clear hq
              go_wp2
              go_quiet ((go_at_call 54; exact Calls.quiet_of_same (l1Find_q _ _ _ _ _ _ _ _ Hl.out hm hrd Hfi.out)))
              have hrow4 := ownD hrow2 nq
              have bw4 := below_dN bd nq
              have hsz4 : w3.heap.size ≤ wr.heap.size := bd.size
              have Hcl := hideIt (show fl1 (castL (P ++ [cur] ++ [v])) = fl1 (castL (P ++ [cur])) ++ [.int .i64 (v : Int)] from Hfl.out)
              clear hrow2 bd hcA hcV2 hcR hcellA hrd
              go_wp2_with (at_builtin; refine wpList_append_own _ rfl (.tmp 62) (.tmp 64) 26 rfl w3.heap.size 3 i0 _ 1 8 Try.underlying26 hi hz0 hz1 hz2 rfl (by decide) _ _ _ rfl (hrow4.alloc _) ⟨_, 0, none⟩ 1 1 [.int .i64 (v : Int)] rfl rfl (cell_one_new _ _ _) (by simp [Value.oneCell']) (by unfold maxLen; omega) (by omega) (by simp; omega) ?_; intro v' wn hown' hgrow hnn; clear hnn)
              obtain ⟨A7, c7, rfl⟩ := own_form hown'
              have b7 := (bw4.alloc bw4.size (.cells #[.int .i64 (v : Int)] 3)).grown hgrow (Nat.le_trans bw4.size (by simp)) (fun g hg => (hrow4.lt g hg).1)
              clear hgrow hrow4 bw4
              go_wp2
              go_roundw
              case rel => exact ⟨v, fu, L + 1, c7, P ++ [cur], A7, f1v, rfl, Hd2, by have := Hf6.out; have := Hda.out; push_cast; omega, Hd2.out.1, by rw [List.length_append, ← HP.out]; rfl, Hway2, rfl, by rw [Hcl.out]; exact hown', b7⟩
              case measure => have := Hf6.out; have := Hd2.out; simp [intOf]; omega
            · have hlt : v < nxt := by
                rcases Nat.lt_or_ge v nxt with h | h
                · exact h
                · have e : v = nxt := by omega
                  subst e
                  have := Hf2.out
                  rw [Hnxv.out, decide_eq_false hq] at this
                  cases this
              have hqb : (ed + dx == da) = false := by simpa using hq
              have hqn : (ed + dx != da) = true := by simpa using hq
              clear hq
              go_wp2
              go_quiet ((go_at_call 54; exact Calls.quiet_of_same (l1Find_q _ _ _ _ _ _ _ _ Hl.out hm hrd Hfi.out)))
              go_wp2
              go_roundw
              case rel => exact ⟨v + 1, by omega, by go_num, ownD hrow2 _, below_dN bd _⟩
              case measure => simp [intOf]; omega
theorem specRoadsWay_w (n : Int) (A : Option Addr) (rs : List (Int × Int × Int)) (m cap : Nat) (a b : Int) (w : World) (_wn : IntOk n) (hl : rs.length = m) (hm : m ≤ 1048576) (hr : Rd w A (fl3 rs)) (ha : IntOk a) (hb : IntOk b) :
    Calls Try.prog 28 #[.int .i64 n, .slice A m cap, .int .i64 a, .int .i64 b] w (RetSB w 3 1 (roadsWay n rs a b).length (fl1 (roadsWay n rs a b)) (decide (0 ≤ roadsFar n rs a b))) := specRoadsWay_any n A rs m cap a b w hl hm hr ha hb
theorem implRoadsWay_w (n : Int) (A : Option Addr) (rs : List (Int × Int × Int)) (m cap : Nat) (a b : Int) (w : World) (_wn : IntOk n) (hl : rs.length = m) (hm : m ≤ 1048576) (hr : Rd w A (fl3 rs)) (ha : IntOk a) (hb : IntOk b) :
    Calls Try.prog 20 #[.int .i64 n, .slice A m cap, .int .i64 a, .int .i64 b] w (RetSB w 3 1 (roadsWay n rs a b).length (fl1 (roadsWay n rs a b)) (decide (0 ≤ roadsFar n rs a b))) := implRoadsWay_any n A rs m cap a b w hl hm hr ha hb
end Go.Proofs.Ytdnjeahbnidefaa

/- Walks: the exact laws' helpers for Road. Printed by gen_rec.py. -/
import Derived.Test.YtpiknklaikcilaaRcRoad
import Derived.StillTailTactics
namespace Go.Proofs.Ytpiknklaikcilaa
open Go.RowKit

theorem szRoadS_yes (A : Option Addr) (n cap : Nat) (left : Int) (w : World) (h : n ≤ left) (hl : left ≤ 1048576) :
    Calls Try.prog 15 #[.slice A n cap, .int .i64 left] w fun e w' => e = .returned (.int .i64 (left - n)) ∧ w = w' := by
  go_enter Try.func15, Try.ntmps15
  go_wp2
  go_ret
  exact ⟨rfl, rfl⟩
theorem szRoadS_no (A : Option Addr) (n cap : Nat) (left : Int) (w : World) (h : left < n) (h0 : 0 ≤ left) (hl : n ≤ 9223372036854775807) :
    Calls Try.prog 15 #[.slice A n cap, .int .i64 left] w fun e w' => e = .returned (.int .i64 (-1)) ∧ w = w' := by
  go_enter Try.func15, Try.ntmps15
  go_wp2
  go_ret
  exact ⟨rfl, rfl⟩
theorem toRoad_any (a b : Int) (c : Int) (w : World) :
    Calls Try.prog 53 #[.agg #[.int .i64 a, .int .i64 b, .int .i64 c]] w (Ret w (.agg #[.int .i64 a, .int .i64 b, .int .i64 c])) := by
  go_enter Try.func53, Try.ntmps53
  go_wp2
  refine bodyPost_ret (v := .agg #[.int .i64 a, .int .i64 b, .int .i64 c]) (by simp [results, Try.results53, go_sem]) rfl ⟨rfl, ?_⟩
  exact (((Below.refl _ _).alloc (Nat.le_refl _) _).alloc (by simp) _).alloc (by simp; omega) _
/-- the first k records written, the rest zero -/
def half3 (ps : List (Int × Int × Int)) (k : Nat) : List (Int × Int × Int) := ps.take k ++ List.replicate (ps.length - k) (0, 0, 0)
theorem half3_len (ps : List (Int × Int × Int)) (k : Nat) (h : k ≤ ps.length) : (half3 ps k).length = ps.length := by simp [half3]; omega
theorem half3_zero (ps : List (Int × Int × Int)) : half3 ps 0 = List.replicate ps.length (0, 0, 0) := by simp [half3]
theorem half3_end (ps : List (Int × Int × Int)) : half3 ps ps.length = ps := by simp [half3]
theorem half3_set (ps : List (Int × Int × Int)) (k : Nat) (h : k < ps.length) : (half3 ps k).set k (a3 ps k, b3 ps k, c3 ps k) = half3 ps (k + 1) := by
  unfold half3 a3 b3 c3
  apply List.ext_getElem?
  intro j
  by_cases hj : j = k
  · subst hj
    rw [List.getElem?_set_self (by simp; omega)]
    rw [List.getElem?_append_left (by simp; omega)]
    simp [h]
  · rw [List.getElem?_set_ne (by omega)]
    by_cases hlt : j < k
    · rw [List.getElem?_append_left (by simp; omega), List.getElem?_append_left (by simp; omega)]
      rw [List.getElem?_take_of_lt (by omega), List.getElem?_take_of_lt (by omega)]
    · rw [List.getElem?_append_right (by simp; omega), List.getElem?_append_right (by simp; omega)]
      simp only [List.length_take, List.getElem?_replicate]
      rw [show min k ps.length = k by omega, show min (k + 1) ps.length = k + 1 by omega]
      by_cases h2 : j - k < ps.length - k
      · rw [if_pos h2, if_pos (by omega)]
      · rw [if_neg h2, if_neg (by omega)]
theorem made3 (n : Nat) : (madeCells #[.int .i64 0, .int .i64 0, .int .i64 0] (n * 3)).toList = fl3 (List.replicate n (0, 0, 0)) := by
  apply List.ext_getElem?
  intro j
  by_cases hj : j < n * 3
  · have hk : j / 3 < (List.replicate n ((0, 0, 0) : Int × Int × Int)).length := by simp; omega
    have := flat_get enc3 3 enc3_len (List.replicate n (0, 0, 0)) (j / 3) (j % 3) (0, 0, 0) (by rw [List.getElem?_replicate, if_pos (by omega)]) (by omega)
    rw [show j / 3 * 3 + j % 3 = j by omega] at this
    unfold fl3
    rw [this]
    have hm : j % 3 = 0 ∨ j % 3 = 1 ∨ j % 3 = 2 := by omega
    rcases hm with hm | hm | hm <;> simp [madeCells, hj, hm, enc3]
  · rw [List.getElem?_eq_none (by simp [size_madeCells]; omega), List.getElem?_eq_none (by rw [fl3_len]; simp; omega)]
set_option maxHeartbeats 400000 in
theorem toRoadS_any (A : Option Addr) (ps : List (Int × Int × Int)) (n cap : Nat) (w : World) (hl : ps.length = n) (hn : n ≤ 1048576) (hr : Rd w A (fl3 ps)) :
    Calls Try.prog 17 #[.slice A n cap] w (RetG w 50 3 n (fl3 ps)) := by
  subst hl
  obtain ⟨i0, hi, hz0, hz1, hz2⟩ := info_parts info_Road
  go_enter Try.func17, Try.ntmps17
  go_wp2_with (refine wpList_make_full _ rfl _ _ _ rfl w.heap.size 50 i0 _ 3 Try.underlying27 hi hz0 hz1 .i64 .i64 _ _ ps.length rfl rfl rfl rfl (by rw [hz2]; omega) (by unfold maxLen; omega) (Nat.le_refl _) ?_; intro w1 hown hgrow)
  have hbw1 : Below w.heap.size w w1 := (Below.refl _ _).grown hgrow (Nat.le_refl _) (by simp)
  go_loopw [4] (fun i wr => ∃ k : Nat, k ≤ ps.length ∧ i = .int .i64 k ∧ wr.ownsRow w.heap.size 50 3 (.slice (some ⟨w.heap.size, 0, none⟩) ps.length ps.length) ps.length (fl3 (half3 ps k)) ∧ Below w.heap.size w wr)
    (fun i _ => ps.length - (intOf i).toNat)
  case atStart => exact ⟨0, by omega, rfl, by rw [half3_zero, ← made3]; exact hown, hbw1⟩
  case round =>
    obtain ⟨k, hk, rfl, hrow, hbw⟩ := hrel
    clear hown hgrow hbw1
    by_cases hlt : k < ps.length
    · obtain ⟨b, off, rfl, hb, hc⟩ := hr.at3 hlt
      obtain ⟨hx, hy, hz⟩ := hc k hlt
      rw [← hbw.cell (p := ⟨b, off + k * 3, none⟩) hb] at hx
      rw [← hbw.cell (p := ⟨b, off + k * 3 + 1, none⟩) hb] at hy
      rw [← hbw.cell (p := ⟨b, off + k * 3 + 2, none⟩) hb] at hz
      clear hc hr
      go_wp2_with fail
      refine (toRoad_any _ _ _ _).mono ?_
      rintro e w2 ⟨rfl, hb2⟩
      have hrow2 := own_below hrow hb2 (Nat.le_refl _)
      have hk2 : k < (half3 ps k).length := by rw [half3_len ps k hk]; exact hlt
      have hl2 : (half3 ps k).length = ps.length := half3_len ps k hk
      have hcells := row3_a hrow2 hk2
      have hfr := fun j => hrow2.frozenAt j
      have hst := row3_store hrow2 hk2 (a3 ps k) (b3 ps k) (c3 ps k)
      rw [half3_set ps k hlt] at hst
      obtain ⟨hca, hcb, hcc⟩ := hcells
      have hbw2 := hbw.trans (hb2.mono hbw.size)
      clear hrow hrow2 hl2
      go_wp2
      go_roundw
      case rel => exact ⟨k + 1, by omega, by go_num, hst, ((hbw2.setCell (by simp) _).setCell (by simp) _).setCell (by simp) _⟩
      case measure => simp [intOf]; omega
    · go_wp2
      go_ret
      obtain rfl : k = ps.length := by omega
      exact ⟨_, _, rfl, by rw [half3_end] at hrow; exact hrow, hbw⟩

theorem eqRoad_any (a b : Int) (c : Int) (d f : Int) (g : Int) (w : World) (r : Bool) (hr : ((decide (a = d) && decide (b = f)) && decide (c = g)) = r) :
    Calls Try.prog 58 #[.agg #[.int .i64 a, .int .i64 b, .int .i64 c], .agg #[.int .i64 d, .int .i64 f, .int .i64 g]] w (Ret w (.bool r)) := by
  subst hr
  go_enter Try.func58, Try.ntmps58
  go_wp2
  all_goals go_ret
  all_goals refine ⟨ret_bool ?_, ((Below.refl _ _).alloc (Nat.le_refl _) _).alloc (by simp) _⟩
  all_goals simp_all

set_option maxRecDepth 100000 in
set_option maxHeartbeats 1000000 in
theorem eqRoadS_any (A B : Option Addr) (ps qs : List (Int × Int × Int)) (n m cap cap' : Nat) (w : World) (hl : ps.length = n) (hl' : qs.length = m) (hn : n ≤ 1048576) (hm : m ≤ 1048576) (hr : Rd w A (fl3 ps)) (hs : Rd w B (fl3 qs)) :
    Calls Try.prog 20 #[.slice A n cap, .slice B m cap'] w (Ret w (.bool (decide (ps = qs)))) := by
  subst hl
  subst hl'
  by_cases hne : ps.length = qs.length
  · rw [← hne]
    rw [← hne] at hm
    go_enter Try.func20, Try.ntmps20
    go_wp2
    go_loopw [5] (fun i wr => ∃ k : Nat, k ≤ ps.length ∧ i = .int .i64 k ∧ decide (ps.drop k = qs.drop k) = decide (ps = qs) ∧ Below w.heap.size w wr) (fun i _ => ps.length - (intOf i).toNat)
    case atStart => exact ⟨0, by omega, rfl, rfl, Below.refl _ _⟩
    case round =>
      obtain ⟨k, hk, rfl, hrec, hbw⟩ := hrel
      have Hrec := hideIt hrec
      have Hne := hideIt hne
      clear hrec hne
      by_cases hlt : k < ps.length
      · obtain ⟨b, off, rfl, hb, hc⟩ := hr.at3 hlt
        obtain ⟨b', off', rfl, hb', hc'⟩ := hs.at3 (k := k) (by rw [← Hne.out]; exact hlt)
        obtain ⟨hx, hy, hz⟩ := hc k hlt
        obtain ⟨hx', hy', hz'⟩ := hc' k (by rw [← Hne.out]; exact hlt)
        rw [← hbw.cell (p := ⟨b, off + k * 3, none⟩) hb] at hx
        rw [← hbw.cell (p := ⟨b, off + k * 3 + 1, none⟩) hb] at hy
        rw [← hbw.cell (p := ⟨b, off + k * 3 + 2, none⟩) hb] at hz
        rw [← hbw.cell (p := ⟨b', off' + k * 3, none⟩) hb'] at hx'
        rw [← hbw.cell (p := ⟨b', off' + k * 3 + 1, none⟩) hb'] at hy'
        rw [← hbw.cell (p := ⟨b', off' + k * 3 + 2, none⟩) hb'] at hz'
        clear hc hc' hr hs
        go_wp2
        go_still_tail 8, (by kernel_rfl)
        have hst := hideIt (eq_step3 ps qs k hlt (by rw [← Hne.out]; exact hlt))
        cases he : ((decide (a3 ps k = a3 qs k) && decide (b3 ps k = b3 qs k)) && decide (c3 ps k = c3 qs k))
        · have He := hideIt he
          clear he
          go_wp2_with (go_at_call 58; refine (eqRoad_any _ _ _ _ _ _ _ false He.out).mono ?_; rintro e w2 ⟨rfl, hb2⟩)
          go_ret
          refine ⟨ret_bool ?_, hbw.drew.trans (hb2.mono hbw.size)⟩
          rw [← Hrec.out, hst.out, He.out, Bool.false_and]
        · have He := hideIt he
          clear he
          go_wp2_with (go_at_call 58; refine (eqRoad_any _ _ _ _ _ _ _ true He.out).mono ?_; rintro e w2 ⟨rfl, hb2⟩)
          go_roundw
          case rel => exact ⟨k + 1, by omega, by go_num, by rw [← Hrec.out, hst.out, He.out, Bool.true_and], hbw.drew.trans (hb2.mono hbw.size)⟩
          case measure => simp [intOf]; omega
      · go_wp2
        go_ret
        obtain rfl : k = ps.length := by omega
        refine ⟨ret_bool ?_, hbw⟩
        rw [← Hrec.out]
        simp [Hne.out]
  · have hne' : ((ps.length : Int) == (qs.length : Int)) = false := by simp; omega
    go_enter Try.func20, Try.ntmps20
    go_wp2
    go_ret
    refine ⟨ret_bool ?_, Below.refl _ _⟩
    rw [eq_comm]
    simp
    rintro rfl
    exact hne rfl

set_option maxHeartbeats 400000 in
theorem markRoadS_any (A : Option Addr) (ps : List (Int × Int × Int)) (n base cap : Nat) (k0 : Int) (w : World) (hl : ps.length = n) (hn : n ≤ 1048576) (h0 : 0 ≤ k0) (h1 : k0 ≤ 100000000)
    (hown : w.ownsRow base 50 3 (.slice A n cap) n (fl3 ps)) :
    Calls Try.prog 21 #[.slice A n cap, .int .i64 k0] w fun e w' => e = .returned (.int .i64 (k0 + 3 * n)) ∧
      w'.ownsRow base 50 3 (.slice A n cap) n (fl3 (mark3 k0 n)) ∧ w.grownBy w' (Value.slice A n cap).ownBlock := by
  have Hl := hideIt hl
  clear hl
  go_enter Try.func21, Try.ntmps21
  go_wp2
  go_loopw [1, 5] (fun q i wr => ∃ k : Nat, k ≤ n ∧ i = .int .i64 k ∧ q = .int .i64 (k0 + 3 * k) ∧ wr.ownsRow base 50 3 (.slice A n cap) n (fl3 (mark3 k0 k ++ ps.drop k)) ∧ w.grownBy wr (Value.slice A n cap).ownBlock) (fun _ i _ => n - (intOf i).toNat)
  case atStart => exact ⟨0, by omega, rfl, by simp, by simpa [mark3] using hown, World.grownBy.refl _ _⟩
  case round =>
    obtain ⟨k, hk, rfl, rfl, hrow, hgr⟩ := hrel
    clear hown
    by_cases hlt : k < n
    · obtain ⟨g, rfl, hbg, hlg⟩ := own_some hrow (by omega)
      have hlk : k < (mark3 k0 k ++ ps.drop k).length := by rw [mark3, mark_len _ _ _ (by rw [Hl.out]; exact hk), Hl.out]; exact hlt
      obtain ⟨hx, hy, hz⟩ := row3_a hrow hlk
      have hfr := fun j => hrow.frozenAt j
      have hst := row3_store hrow hlk (k0 + 3 * k) (k0 + 3 * k + 1) (k0 + 3 * k + 2)
      rw [mark3, mark_set (fun (i : Nat) => ((k0 + 3 * i, k0 + 3 * i + 1, k0 + 3 * i + 2) : Int × Int × Int)) ps k (by rw [Hl.out]; exact hlt)] at hst
      clear hrow hlk
      go_wp2
      go_roundw
      case rel => exact ⟨k + 1, by omega, by go_num, by congr 1; omega, by first | exact hst | (rw [show k0 + 3 * (k : Int) + 1 + 1 = k0 + 3 * k + 2 by omega]; exact hst), only_setCell (p := ⟨g, k * 3 + 2, none⟩) (only_setCell (p := ⟨g, k * 3 + 1, none⟩) (only_setCell (p := ⟨g, k * 3, none⟩) hgr (.inl rfl) _) (.inl rfl) _) (.inl rfl) _⟩
      case measure => simp [intOf]; omega
    · go_wp2
      go_ret
      obtain rfl : k = n := by omega
      rw [List.drop_eq_nil_of_le (by rw [Hl.out]; omega), List.append_nil] at hrow
      exact ⟨rfl, hrow, hgr⟩
end Go.Proofs.Ytpiknklaikcilaa

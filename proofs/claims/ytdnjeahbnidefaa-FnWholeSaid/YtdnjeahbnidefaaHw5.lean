/- Walks: container/heap at the heap of towns: up, down. -/
import Derived.Test.YtdnjeahbnidefaaHw4
namespace Go.Proofs.Ytdnjeahbnidefaa
open Go.RowKit

/-- the towns lie in another order -/
def Turned (w w' : World) (h base g n c : Nat) (xs ys : List (Int × Int)) : Prop := HP w' h base g n c ys ∧ (∀ x, x ∈ ys ↔ x ∈ xs) ∧ w.grownBy w' (some g)
theorem Turned.refl {w : World} {h base g n c : Nat} {xs : List (Int × Int)} (hp : HP w h base g n c xs) : Turned w w h base g n c xs xs := ⟨hp, fun _ => Iff.rfl, World.grownBy.refl _ _⟩
theorem grown_drewR {w w' : World} {r : Option Nat} (h : w.grownBy w' r) (n : Nat) : w.grownBy (w'.drewN n) r := ⟨h.os, h.tape, h.output, h.size, h.block⟩
theorem grown_sameR {w w1 w2 : World} {g : Nat} (h : w.grownBy w1 (some g)) (h2 : w1.grownBy w2 (some g)) : w.grownBy w2 (some g) :=
  ⟨h2.os.trans h.os, h2.tape.trans h.tape, h2.output.trans h.output, Nat.le_trans h.size h2.size, fun k hk hne => (h2.block k (Nat.lt_of_lt_of_le hk h.size) hne).trans (h.block k hk hne)⟩
theorem undrewN {w w' : World} {r : Option Nat} {n : Nat} (h : (w.drewN n).grownBy w' r) : w.grownBy w' r := ⟨h.os, h.tape, h.output, h.size, h.block⟩
theorem Turned.drewN {w w' : World} {h base g n c : Nat} {xs ys : List (Int × Int)} (t : Turned w w' h base g n c xs ys) (k : Nat) : Turned w (w'.drewN k) h base g n c xs ys := ⟨t.1.drewN k, t.2.1, grown_drewR t.2.2 k⟩
theorem Turned.swap {w w' w'' : World} {h base g n c i j : Nat} {xs ys : List (Int × Int)} (t : Turned w w' h base g n c xs ys) (hi : i < n) (hj : j < n) (ho : w''.ownsRow base 82 2 (.slice (some ⟨g, 0, none⟩) n c) n (fl2 (swp ys i j))) (hg : w'.grownBy w'' (some g)) : Turned w w'' h base g n c xs (swp ys i j) := by
  have hl := t.1.2.1
  exact ⟨t.1.row hg (by rw [swp_len]; exact hl) ho, fun x => (mem_swp (by omega) (by omega) x).trans (t.2.1 x), grown_sameR t.2.2 hg⟩

set_option maxRecDepth 100000 in
set_option maxHeartbeats 1000000 in
theorem heapUp_any (h base g n c j : Nat) (xs : List (Int × Int)) (w : World) (hp : HP w h base g n c xs) (hn : n ≤ 1000000) (hj : j < n) (hu : HeapUp snd2 xs n j) :
    Calls Try.prog 81 #[.iface 80 (.pointer (some ⟨h, 0, none⟩)), .int .i64 j] w fun e w' => e = .returned (.tuple #[]) ∧ ∃ ys, Turned w w' h base g n c xs ys ∧ HeapN snd2 ys n := by
  go_enter Try.func81, Try.ntmps81
  go_wp2
  go_loopw [1] (fun i wr => ∃ (k : Nat) (ys : List (Int × Int)), i = .int .i64 k ∧ k < n ∧ HeapUp snd2 ys n k ∧ Turned w wr h base g n c xs ys) (fun i _ => (intOf i).toNat)
  case atStart => exact ⟨j, xs, rfl, hj, hu, Turned.refl hp⟩
  case round =>
    obtain ⟨k, ys, rfl, hk, huk, ht⟩ := hrel
    have Huk : Hid (HeapUp snd2 ys n k) := hideIt huk
    have Ht : Hid (Turned w wr h base g n c xs ys) := hideIt ht
    have hcell := ht.1.cell
    have hl := hideIt ht.1.2.1
    have ho := ht.1.2.2
    clear hp hu huk ht
    by_cases hk0 : k = 0
    · subst hk0
      go_wp2
      go_end0
      exact ⟨rfl, ys, Ht.out, Huk.out.top⟩
    · obtain ⟨p, rfl⟩ : ∃ p, k = p + 1 := ⟨k - 1, by omega⟩
      obtain ⟨q, hq, hq2⟩ : ∃ q : Nat, (p : Int) / 2 = q ∧ q = (p + 1 - 1) / 2 := ⟨p / 2, by omega, by omega⟩
      have Hq2 := hideIt hq2
      have hqp : ((q : Int) == (p : Int) + 1) = false := by simp; omega
      have hqn : q < n := by omega
      have hle := m_Less hcell
      obtain ⟨r, hr⟩ : ∃ r, decide (ky snd2 ys (p + 1) < ky snd2 ys q) = r := ⟨_, rfl⟩
      have Hr := hideIt hr
      clear hq2 hk0 hr
      go_wp2_with fail
      have harg : (p : Int) + 1 = ((p + 1 : Nat) : Int) := by omega
      rw [harg]
      refine (thLess_any g n c base ys (p + 1) q _ r hl.out ho hn hk hqn Hr.out).mono ?_
      rintro e w1 ⟨rfl, t, rfl⟩
      rw [← harg]
      clear harg
      cases r
      · have hstop := Huk.out.stop (by rw [← Hq2.out]; have := Hr.out; rw [decide_eq_false_iff_not] at this; omega)
        go_wp2
        go_end0
        exact ⟨rfl, ys, Ht.out.drewN _, hstop⟩
      · have hstep := Huk.out.step hl.out (by omega) hk Hq2.out (by have := Hr.out; rw [decide_eq_true_eq] at this; exact this)
        have hsw := m_Swap (w := wr.drewN t) hcell
        go_wp2_with fail
        have harg : (p : Int) + 1 = ((p + 1 : Nat) : Int) := by omega
        rw [harg]
        refine (thSwap_any g n c base ys q (p + 1) (wr.drewN t) hl.out ho hn hqn hk).mono ?_
        rintro e w2 ⟨rfl, ho2, hg2⟩
        have ht2 := Ht.out.swap hqn hk ho2 (undrewN hg2)
        clear harg ho2 hg2
        go_wp2
        go_roundw
        case rel => exact ⟨q, _, rfl, hqn, hstep, ht2⟩
        case measure => simp [intOf]; omega
/-- what lies behind an index lies as it lay -/
def Rest (xs ys : List (Int × Int)) (m : Nat) : Prop := ∀ k, m ≤ k → ys.getD k (0, 0) = xs.getD k (0, 0)
theorem Rest.swap {xs ys : List (Int × Int)} {m i j : Nat} (r : Rest xs ys m) (hi : i < m) (hj : j < m) (hl : m ≤ ys.length) : Rest xs (swp ys i j) m := fun k hk => by
  rw [swp_at (by omega) (by omega), if_neg (by omega), if_neg (by omega)]
  exact r k hk
/-- what down leaves -/
def DownEnd (w : World) (h base g n c m : Nat) (xs : List (Int × Int)) (e : Ending) (w' : World) : Prop := ∃ v ys, e = .returned v ∧ Turned w w' h base g n c xs ys ∧ HeapN snd2 ys m ∧ Rest xs ys m
theorem child_of {c i : Nat} (h0 : 0 < c) (h : (c - 1) / 2 = i) : c = 2 * i + 1 ∨ c = 2 * i + 2 := by omega

set_option maxRecDepth 100000 in
set_option maxHeartbeats 4000000 in
theorem heapDown_any (h base g n c m : Nat) (xs : List (Int × Int)) (w : World) (hp : HP w h base g n c xs) (hn : n ≤ 1000000) (hmn : m ≤ n) (hd : HeapDn snd2 xs m 0) :
    Calls Try.prog 80 #[.iface 80 (.pointer (some ⟨h, 0, none⟩)), .int .i64 0, .int .i64 m] w (DownEnd w h base g n c m xs) := by
  go_enter Try.func80, Try.ntmps80
  go_wp2
  go_loopw [7] (fun i wr => ∃ (k : Nat) (ys : List (Int × Int)), i = .int .i64 k ∧ k ≤ n ∧ HeapDn snd2 ys m k ∧ Turned w wr h base g n c xs ys ∧ Rest xs ys m) (fun i _ => n + 1 - (intOf i).toNat)
  case atStart => exact ⟨0, xs, rfl, Nat.zero_le _, hd, Turned.refl hp, fun _ _ => rfl⟩
  case round =>
    obtain ⟨k, ys, rfl, hk, hdk, ht, hrest⟩ := hrel
    have Hdk : Hid (HeapDn snd2 ys m k) := hideIt hdk
    have Ht : Hid (Turned w wr h base g n c xs ys) := hideIt ht
    have Hrest : Hid (Rest xs ys m) := hideIt hrest
    have hcell := ht.1.cell
    have hl := hideIt ht.1.2.1
    have ho := ht.1.2.2
    clear hp hd hdk ht hrest
    by_cases hleaf : m ≤ 2 * k + 1
    · have hstop := Hdk.out.leaf hleaf
      go_wp2
      go_ret
      exact ⟨_, ys, rfl, Ht.out, hstop, Hrest.out⟩
    have hj1 : 2 * k + 1 < m := by omega
    have hj1n : 2 * k + 1 < n := by omega
    have hkn : k < n := by omega
    have c1 : (2 * (k : Int) + 1) = ((2 * k + 1 : Nat) : Int) := by omega
    have c2 : (2 * (k : Int) + 1 + 1) = ((2 * k + 2 : Nat) : Int) := by omega
    have C1 := hideIt c1
    have C2 := hideIt c2
    have hle := m_Less hcell
    clear hleaf c1 c2
    by_cases hj2 : 2 * k + 2 < m
    · obtain ⟨r, hr⟩ : ∃ r, decide (ky snd2 ys (2 * k + 2) < ky snd2 ys (2 * k + 1)) = r := ⟨_, rfl⟩
      have Hr := hideIt hr
      have hj2' : 2 * (k : Int) + 1 + 1 < (m : Int) := by omega
      clear hr
      go_wp2_with fail
      rw [C2.out, C1.out]
      refine (thLess_any g n c base ys (2 * k + 2) (2 * k + 1) _ r hl.out ho hn (by omega) hj1n Hr.out).mono ?_
      rintro e w1 ⟨rfl, t, rfl⟩
      rw [← C2.out, ← C1.out]
      have hle1 := m_Less (w := wr.drewN t) hcell
      cases r
      · obtain ⟨r2, hr2⟩ : ∃ r, decide (ky snd2 ys (2 * k + 1) < ky snd2 ys k) = r := ⟨_, rfl⟩
        have Hr2 := hideIt hr2
        clear hr2
        have hmin : ∀ c, 0 < c → c < m → (c - 1) / 2 = k → ky snd2 ys (2 * k + 1) ≤ ky snd2 ys c := fun c c0 cm ck => by
          rcases child_of c0 ck with rfl | rfl
          · exact Int.le_refl _
          · have h2 := Hr.out
            rw [decide_eq_false_iff_not] at h2
            omega
        have Hmin : Hid (∀ c, 0 < c → c < m → (c - 1) / 2 = k → ky snd2 ys (2 * k + 1) ≤ ky snd2 ys c) := hideIt hmin
        clear hmin
        go_wp2_with fail
        rw [C1.out]
        refine (thLess_any g n c base ys (2 * k + 1) k (wr.drewN t) r2 hl.out ho hn (by omega) hkn Hr2.out).mono ?_
        rintro e w2 ⟨rfl, t2, rfl⟩
        rw [← C1.out]
        have hsw := m_Swap (w := wr.drewN (t + t2)) hcell
        cases r2
        · have hstop : HeapN snd2 ys m := Hdk.out.stop (fun c c0 cm ck => by
            have h1 := Hmin.out c c0 cm ck
            have h2 := Hr2.out
            rw [decide_eq_false_iff_not] at h2
            omega)
          have htd := Ht.out.drewN (t + t2)
          go_wp2
          go_ret
          exact ⟨_, ys, rfl, htd, hstop, Hrest.out⟩
        · have hstep := Hdk.out.step (j := 2 * k + 1) (by rw [hl.out]; exact hmn) (by omega) (by omega) (by omega) (by have h2 := Hr2.out; rw [decide_eq_true_eq] at h2; omega) Hmin.out
          go_wp2_with fail
          rw [C1.out]
          refine (thSwap_any g n c base ys k (2 * k + 1) (wr.drewN (t + t2)) hl.out ho hn hkn (by omega)).mono ?_
          rintro e w3 ⟨rfl, ho3, hg3⟩
          rw [← C1.out]
          have ht3 := Ht.out.swap hkn (by omega) ho3 (undrewN hg3)
          have hr3 := Hrest.out.swap (i := k) (j := 2 * k + 1) (by omega) (by omega) (by rw [hl.out]; exact hmn)
          clear ho3 hg3
          go_wp2
          go_roundw
          case rel => exact ⟨2 * k + 1, _, by rw [C1.out], by omega, hstep, ht3, hr3⟩
          case measure => simp [intOf]; omega
      · obtain ⟨r2, hr2⟩ : ∃ r, decide (ky snd2 ys (2 * k + 2) < ky snd2 ys k) = r := ⟨_, rfl⟩
        have Hr2 := hideIt hr2
        clear hr2
        have hmin : ∀ c, 0 < c → c < m → (c - 1) / 2 = k → ky snd2 ys (2 * k + 2) ≤ ky snd2 ys c := fun c c0 cm ck => by
          rcases child_of c0 ck with rfl | rfl
          · have h2 := Hr.out
            rw [decide_eq_true_eq] at h2
            omega
          · exact Int.le_refl _
        have Hmin : Hid (∀ c, 0 < c → c < m → (c - 1) / 2 = k → ky snd2 ys (2 * k + 2) ≤ ky snd2 ys c) := hideIt hmin
        clear hmin
        go_wp2_with fail
        rw [C2.out]
        refine (thLess_any g n c base ys (2 * k + 2) k (wr.drewN t) r2 hl.out ho hn (by omega) hkn Hr2.out).mono ?_
        rintro e w2 ⟨rfl, t2, rfl⟩
        rw [← C2.out]
        have hsw := m_Swap (w := wr.drewN (t + t2)) hcell
        cases r2
        · have hstop : HeapN snd2 ys m := Hdk.out.stop (fun c c0 cm ck => by
            have h1 := Hmin.out c c0 cm ck
            have h2 := Hr2.out
            rw [decide_eq_false_iff_not] at h2
            omega)
          have htd := Ht.out.drewN (t + t2)
          go_wp2
          go_ret
          exact ⟨_, ys, rfl, htd, hstop, Hrest.out⟩
        · have hstep := Hdk.out.step (j := 2 * k + 2) (by rw [hl.out]; exact hmn) (by omega) (by omega) (by omega) (by have h2 := Hr2.out; rw [decide_eq_true_eq] at h2; omega) Hmin.out
          go_wp2_with fail
          rw [C2.out]
          refine (thSwap_any g n c base ys k (2 * k + 2) (wr.drewN (t + t2)) hl.out ho hn hkn (by omega)).mono ?_
          rintro e w3 ⟨rfl, ho3, hg3⟩
          rw [← C2.out]
          have ht3 := Ht.out.swap hkn (by omega) ho3 (undrewN hg3)
          have hr3 := Hrest.out.swap (i := k) (j := 2 * k + 2) (by omega) (by omega) (by rw [hl.out]; exact hmn)
          clear ho3 hg3
          go_wp2
          go_roundw
          case rel => exact ⟨2 * k + 2, _, by rw [C2.out], by omega, hstep, ht3, hr3⟩
          case measure => simp [intOf]; omega
    · have hj2' : ¬ 2 * (k : Int) + 1 + 1 < (m : Int) := by omega
      obtain ⟨r2, hr2⟩ : ∃ r, decide (ky snd2 ys (2 * k + 1) < ky snd2 ys k) = r := ⟨_, rfl⟩
      have Hr2 := hideIt hr2
      clear hr2
      have hmin : ∀ c, 0 < c → c < m → (c - 1) / 2 = k → ky snd2 ys (2 * k + 1) ≤ ky snd2 ys c := fun c c0 cm ck => by
        rcases child_of c0 ck with rfl | rfl
        · exact Int.le_refl _
        · omega
      have Hmin : Hid (∀ c, 0 < c → c < m → (c - 1) / 2 = k → ky snd2 ys (2 * k + 1) ≤ ky snd2 ys c) := hideIt hmin
      clear hmin
      go_wp2_with fail
      rw [C1.out]
      refine (thLess_any g n c base ys (2 * k + 1) k wr r2 hl.out ho hn (by omega) hkn Hr2.out).mono ?_
      rintro e w2 ⟨rfl, t2, rfl⟩
      rw [← C1.out]
      have hsw := m_Swap (w := (wr).drewN t2) hcell
      cases r2
      · have hstop : HeapN snd2 ys m := Hdk.out.stop (fun c c0 cm ck => by
          have h1 := Hmin.out c c0 cm ck
          have h2 := Hr2.out
          rw [decide_eq_false_iff_not] at h2
          omega)
        have htd := Ht.out.drewN t2
        go_wp2
        go_ret
        exact ⟨_, ys, rfl, htd, hstop, Hrest.out⟩
      · have hstep := Hdk.out.step (j := 2 * k + 1) (by rw [hl.out]; exact hmn) (by omega) (by omega) (by omega) (by have h2 := Hr2.out; rw [decide_eq_true_eq] at h2; omega) Hmin.out
        go_wp2_with fail
        rw [C1.out]
        refine (thSwap_any g n c base ys k (2 * k + 1) ((wr).drewN t2) hl.out ho hn hkn (by omega)).mono ?_
        rintro e w3 ⟨rfl, ho3, hg3⟩
        rw [← C1.out]
        have ht3 := Ht.out.swap hkn (by omega) ho3 (undrewN hg3)
        have hr3 := Hrest.out.swap (i := k) (j := 2 * k + 1) (by omega) (by omega) (by rw [hl.out]; exact hmn)
        clear ho3 hg3
        go_wp2
        go_roundw
        case rel => exact ⟨2 * k + 1, _, by rw [C1.out], by omega, hstep, ht3, hr3⟩
        case measure => simp [intOf]; omega
end Go.Proofs.Ytdnjeahbnidefaa

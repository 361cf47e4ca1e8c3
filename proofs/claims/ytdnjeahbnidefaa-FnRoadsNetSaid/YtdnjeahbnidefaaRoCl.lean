/- Walks: withoutRoad, RoadsClose of the program and of the reference. -/
import Derived.Test.YtdnjeahbnidefaaRo3
import Derived.Test.YtdnjeahbnidefaaGA
import Derived.Test.YtdnjeahbnidefaaSlRoad
import Derived.Shelf.Abstract
namespace Go.Proofs.Ytdnjeahbnidefaa
open Go.RowKit

theorem fl3_take (ls : List (Int × Int × Int)) (k : Nat) : ∀ (i : Nat) (u : Value), (fl3 (ls.take k))[i]? = some u → (fl3 ls)[i]? = some u := by
  intro i u h
  have e : fl3 ls = fl3 (ls.take k) ++ fl3 (ls.drop k) := by rw [fl3, fl3, fl3, ← List.flatMap_append, List.take_append_drop]
  rw [e, List.getElem?_append_left (List.getElem?_eq_some_iff.1 h).1]
  exact h
theorem fl3_drop (ls : List (Int × Int × Int)) (k : Nat) (hk : k ≤ ls.length) : ∀ (i : Nat) (u : Value), (fl3 (ls.drop k))[i]? = some u → (fl3 ls)[k * 3 + i]? = some u := by
  intro i u h
  have e : fl3 ls = fl3 (ls.take k) ++ fl3 (ls.drop k) := by rw [fl3, fl3, fl3, ← List.flatMap_append, List.take_append_drop]
  have hl : (fl3 (ls.take k)).length = k * 3 := by rw [fl3_len, List.length_take]; omega
  rw [e, List.getElem?_append_right (by omega), hl, Nat.add_sub_cancel_left]
  exact h
theorem fl3_nil_of {ls : List (Int × Int × Int)} (e : fl3 ls = []) : ls = [] := by
  have e1 := congrArg List.length e
  rw [fl3_len] at e1
  exact List.eq_nil_of_length_eq_zero (by simp at e1; omega)
theorem Rd.take3 {w : World} {A : Option Addr} {ls : List (Int × Int × Int)} (h : Rd w A (fl3 ls)) (k : Nat) : Rd w A (fl3 (ls.take k)) := fun hn => by
  obtain ⟨b, off, rfl, hlt, hc⟩ := h (fun e => hn (by rw [fl3_nil_of e]; simp [fl3]))
  exact ⟨b, off, rfl, hlt, fun i u hu => hc i u (fl3_take ls k i u hu)⟩
theorem Rd.drop3 {w : World} {b off : Nat} {ls : List (Int × Int × Int)} (h : Rd w (some ⟨b, off, none⟩) (fl3 ls)) (k : Nat) (hk : k ≤ ls.length) : Rd w (some ⟨b, off + k * 3, none⟩) (fl3 (ls.drop k)) := fun hn => by
  obtain ⟨b', off', e, hlt, hc⟩ := h (fun e => hn (by rw [fl3_nil_of e]; simp [fl3]))
  cases e
  exact ⟨b, off + k * 3, rfl, hlt, fun i u hu => by rw [Nat.add_assoc]; exact hc _ _ (fl3_drop ls k hk i u hu)⟩
theorem Rd.at0 {w : World} {A : Option Addr} {ls : List (Int × Int × Int)} (h : Rd w A (fl3 ls)) (hn : 0 < ls.length) : ∃ b off, A = some ⟨b, off, none⟩ := by
  obtain ⟨b, off, rfl, _⟩ := h.at3 hn
  exact ⟨b, off, rfl⟩

set_option maxRecDepth 100000 in
set_option maxHeartbeats 1000000 in
theorem withoutRoad_any (b off : Nat) (ls : List (Int × Int × Int)) (m cap k : Nat) (w : World) (hl : ls.length = m) (hm : m ≤ 1048576) (hr : Rd w (some ⟨b, off, none⟩) (fl3 ls)) (hc : m ≤ cap) (hk : k < m) :
    Calls Try.prog 36 #[.slice (some ⟨b, off, none⟩) m cap, .int .i64 k] w (RetS w 32 3 (m - 1) (fl3 (lessR ls k))) := by
  have ht := hr.take3 k
  have Hlt := hideIt (show (ls.take k).length = k by simp; omega)
  have Hld := hideIt (show (ls.drop (k + 1)).length = m - (k + 1) by simp; omega)
  have Hl := hideIt hl
  have hwr : IntKind.i64.wrap ((k : Int) + 1) = (k : Int) + 1 := IntWalk.i64_in _ (by omega)
  have g1 : (k : Int) ≤ (cap : Int) := by omega
  have g2 : (0 : Int) ≤ (k : Int) + 1 := by omega
  have g3 : (k : Int) + 1 ≤ (m : Int) := by omega
  have g4 : ((k : Int) + 1).toNat = k + 1 := by omega
  have g5 : ¬ cap = 0 := by omega
  by_cases hck : cap = k + 1
  · obtain rfl : m = k + 1 := by omega
    subst hck
    have g6 : (k : Int) ≤ (k : Int) + 1 := by omega
    have Hnil := hideIt (show lessR ls k = ls.take k ++ [] by rw [lessR, List.drop_eq_nil_of_le (by rw [Hl.out]; omega)])
    have hw := hideIt (show k + 1 - 1 = k + 0 by omega)
    clear hc hl
    go_enter Try.func36, Try.ntmps36
    go_wp2_with fail
    go_region_held3 (fun w' => Below w.heap.size w w')
      (first | assumption | exact (Below.refl _ _).drew | exact B3 | (refine Below.alloc (by assumption) (Below.size (by assumption)) _))
      (first
        | (go_at_call 57
           refine (concatRoad_any _ ⟨b, off, none⟩ ⟨b, off, none⟩ (ls.take k) [] k 0 (k + 1) 0 _ Hlt.out rfl (by omega) (by omega) ((ht.alloc _).drew) (Rd.nil _ _) (by simp) (by simp) (by simp)).mono ?_
           rintro e w3 ⟨A3, c3, rfl, ho3, hb3⟩
           have B3 := below_from (((Below.refl w.heap.size w).alloc (Nat.le_refl _) _).drew) hb3))
    go_wp2
    go_ret
    rw [Hnil.out, hw.out]
    exact ⟨_, _, rfl, own_base ho3 (((Below.refl w.heap.size w).alloc (Nat.le_refl _) _).drew).size, B3⟩
  · have hd1 := hr.drop3 (k + 1) (by omega)
    have Hsum := hideIt (show m - 1 = k + (m - (k + 1)) by omega)
    clear hl
    go_enter Try.func36, Try.ntmps36
    go_wp2_with fail
    go_region_held3 (fun w' => Below w.heap.size w w')
      (first | assumption | exact (Below.refl _ _).drew | exact B3 | (refine Below.alloc (by assumption) (Below.size (by assumption)) _))
      (first
        | (go_at_call 57
           refine (concatRoad_any _ ⟨b, off, none⟩ ⟨b, off + (k + 1) * 3, none⟩ (ls.take k) (ls.drop (k + 1)) k (m - (k + 1)) cap (cap - (k + 1)) _ Hlt.out Hld.out (by omega) (by omega) ((ht.alloc _).drew) ((hd1.alloc _).drew) (by simp) (by simp) (by simp)).mono ?_
           rintro e w3 ⟨A3, c3, rfl, ho3, hb3⟩
           have B3 := below_from (((Below.refl w.heap.size w).alloc (Nat.le_refl _) _).drew) hb3))
    go_wp2
    go_ret
    rw [Hsum.out]
    exact ⟨_, _, rfl, own_base ho3 (((Below.refl w.heap.size w).alloc (Nat.le_refl _) _).drew).size, B3⟩

set_option maxHeartbeats 1000000 in
theorem closeFn_any (x y z a b : Int) (pa pb : Nat) (w : World) (hab : a < b ∨ b < a) (ha : w.cell? ⟨pa, 0, none⟩ = some (.int .i64 a)) (hb : w.cell? ⟨pb, 0, none⟩ = some (.int .i64 b)) :
    Calls Try.prog 43 #[.agg #[.int .i64 x, .int .i64 y, .int .i64 z], .pointer (some ⟨pa, 0, none⟩), .pointer (some ⟨pb, 0, none⟩)] w (Ret w (.bool (decide (x = min a b) && decide (y = max a b)))) := by
  have hpa := World.block_lt_of_cell? w _ ha
  have hpb := World.block_lt_of_cell? w _ hb
  simp only at hpa hpb
  have hna : pa ≠ w.heap.size := by omega
  have hnb : pb ≠ w.heap.size := by omega
  rcases hab with h | h
  all_goals
    first
      | (have hmm : min a b = a ∧ max a b = b := by omega)
      | (have hmm : min a b = b ∧ max a b = a := by omega)
    rw [hmm.1, hmm.2]
    clear hmm
  · by_cases h1 : x = a
    · by_cases h2 : y = b
      · subst h1 h2
        go_enter Try.func43, Try.ntmps43
        go_wp2
        go_ret
        exact ⟨by simp, (Below.refl _ _).alloc (Nat.le_refl _) _⟩
      · have h3 : (y == b) = false := by simpa using h2
        have H := hideIt (show (decide (y = b)) = false by simpa using h2)
        subst h1
        clear h2
        go_enter Try.func43, Try.ntmps43
        go_wp2
        go_ret
        exact ⟨by rw [H.out]; simp, (Below.refl _ _).alloc (Nat.le_refl _) _⟩
    · have h3 : (x == a) = false := by simpa using h1
      have H := hideIt (show (decide (x = a)) = false by simpa using h1)
      clear h1
      go_enter Try.func43, Try.ntmps43
      go_wp2
      go_ret
      exact ⟨by rw [H.out]; simp, (Below.refl _ _).alloc (Nat.le_refl _) _⟩
  · by_cases h1 : x = b
    · by_cases h2 : y = a
      · subst h1 h2
        go_enter Try.func43, Try.ntmps43
        go_wp2
        go_ret
        exact ⟨by simp, (Below.refl _ _).alloc (Nat.le_refl _) _⟩
      · have h3 : (y == a) = false := by simpa using h2
        have H := hideIt (show (decide (y = a)) = false by simpa using h2)
        subst h1
        clear h2
        go_enter Try.func43, Try.ntmps43
        go_wp2
        go_ret
        exact ⟨by rw [H.out]; simp, (Below.refl _ _).alloc (Nat.le_refl _) _⟩
    · have h3 : (x == b) = false := by simpa using h1
      have H := hideIt (show (decide (x = b)) = false by simpa using h1)
      clear h1
      go_enter Try.func43, Try.ntmps43
      go_wp2
      go_ret
      exact ⟨by rw [H.out]; simp, (Below.refl _ _).alloc (Nat.le_refl _) _⟩

set_option maxRecDepth 100000 in
set_option maxHeartbeats 1000000 in
theorem indexFuncRoad_any (A : Option Addr) (rs : List (Int × Int × Int)) (m cap : Nat) (a b : Int) (pa pb : Nat) (w : World) (hl : rs.length = m) (hm : m ≤ 1048576) (hr : Rd w A (fl3 rs)) (hab : a < b ∨ b < a) (ha : w.cell? ⟨pa, 0, none⟩ = some (.int .i64 a)) (hb : w.cell? ⟨pb, 0, none⟩ = some (.int .i64 b)) :
    Calls Try.prog 42 #[.slice A m cap, .func (.func 43) #[] #[.pointer (some ⟨pa, 0, none⟩), .pointer (some ⟨pb, 0, none⟩)]] w (Ret w (.int .i64 (find1 rs a b))) := by
  have eg : ∀ args w, (callFunc 43 args).run Try.prog w = .ok (.enter 43 args) w := enters_of Try.func43 (by kernel_rfl) rfl
  have hpa := World.block_lt_of_cell? w _ ha
  have hpb := World.block_lt_of_cell? w _ hb
  simp only at hpa hpb
  have Hl := hideIt hl
  clear hl
  go_enter Try.func42, Try.ntmps42
  go_wp2
  go_loopw [5, 8] (fun _ i wr => ∃ k : Nat, k ≤ m ∧ i = .int .i64 k ∧ Hid (∀ j, j < k → hit rs a b j = false) ∧ Below w.heap.size w wr) (fun _ i _ => m - (intOf i).toNat)
  case atStart => exact ⟨0, by omega, rfl, hideIt (fun j hj => by omega), Below.refl _ _⟩
  case round =>
    obtain ⟨k, hk, rfl, Hno, hbw⟩ := hrel
    by_cases hlt : k < m
    · have hkl : k < rs.length := by rw [Hl.out]; exact hlt
      obtain ⟨bb, off, rfl, hblk, hc⟩ := hr.at3 hkl
      obtain ⟨hx, hy, hz⟩ := hc k hkl
      rw [← hbw.cell (p := ⟨bb, off + k * 3, none⟩) hblk] at hx
      rw [← hbw.cell (p := ⟨bb, off + k * 3 + 1, none⟩) hblk] at hy
      rw [← hbw.cell (p := ⟨bb, off + k * 3 + 2, none⟩) hblk] at hz
      have ha2 := (hbw.cell (p := ⟨pa, 0, none⟩) hpa).trans ha
      have hb2 := (hbw.cell (p := ⟨pb, 0, none⟩) hpb).trans hb
      have Hkl := hideIt hkl
      clear hc hkl
      cases hq : hit rs a b k with
      | true =>
        have Hf := hideIt (show find1 rs a b = (k : Int) from findTo_at Hkl.out hq Hno.out)
        have hcall := closeFn_any (a3 rs k) (b3 rs k) (c3 rs k) a b pa pb wr hab ha2 hb2
        rw [show (decide (a3 rs k = min a b) && decide (b3 rs k = max a b)) = true from hq] at hcall
        clear hq ha2 hb2
        go_wp2_with (go_at_fn 43; refine hcall.mono ?_; rintro e w' ⟨rfl, hb'⟩)
        go_ret
        exact ⟨ret_int Hf.out.symm, hbw.trans (hb'.mono hbw.size)⟩
      | false =>
        have Hno2 := hideIt (show ∀ j, j < k + 1 → hit rs a b j = false from fun j hj => by
          by_cases e : j = k
          · rw [e]; exact hq
          · exact Hno.out j (by omega))
        have hcall := closeFn_any (a3 rs k) (b3 rs k) (c3 rs k) a b pa pb wr hab ha2 hb2
        rw [show (decide (a3 rs k = min a b) && decide (b3 rs k = max a b)) = false from hq] at hcall
        clear hq ha2 hb2
        go_wp2_with (go_at_fn 43; refine hcall.mono ?_; rintro e w' ⟨rfl, hb'⟩)
        have bw2 := hbw.trans (hb'.mono hbw.size)
        go_roundw
        case rel => exact ⟨k + 1, by omega, by go_num, Hno2, bw2⟩
        case measure => simp [intOf]; omega
    · obtain rfl : k = m := by omega
      have Hf := hideIt (show find1 rs a b = -1 from findTo_none (fun i hi => Hno.out i (by rw [← Hl.out]; exact hi)))
      go_wp2
      go_ret
      exact ⟨ret_int Hf.out.symm, hbw⟩

/-- what RoadsClose returns -/
def roadsClose (n : Int) (rs : List (Int × Int × Int)) (a b : Int) : List (Int × Int × Int) := if 0 ≤ direct n rs a b then lessR rs (find1 rs a b).toNat else []
theorem roadsClose_f {n : Int} {rs : List (Int × Int × Int)} {a b : Int} (h : direct n rs a b < 0) : roadsClose n rs a b = [] := by rw [roadsClose, if_neg (by omega)]
theorem roadsClose_t {n : Int} {rs : List (Int × Int × Int)} {a b : Int} {k : Nat} (h : 0 ≤ direct n rs a b) (hk : find1 rs a b = (k : Int)) : roadsClose n rs a b = lessR rs k := by rw [roadsClose, if_pos h, hk, Int.toNat_natCast]
theorem direct_at {n : Int} {rs : List (Int × Int × Int)} {a b : Int} (h : 0 ≤ direct n rs a b) : ∃ (m k : Nat), n = m ∧ RV m rs ∧ find1 rs a b = (k : Int) ∧ k < rs.length ∧ hit rs a b k = true ∧ direct n rs a b = c3 rs k ∧ (a < b ∨ b < a) ∧ edge rs a b = c3 rs k := by
  cases hv : roadsValid n rs
  · rw [direct, hv] at h
    simp at h
  obtain ⟨m, rfl, hrv⟩ := roadsValid_t hv
  have hd : direct m rs a b = edge rs a b := by rw [direct, hv]; rfl
  rw [hd] at h ⊢
  rcases edge_cases rs a b with ⟨h1, _, _⟩ | ⟨j, h1, h2, h3, h4⟩
  · omega
  · have := hrv.edge_pos h
    exact ⟨m, j, rfl, hrv, h2, h1, h3, h4, by omega, h4⟩

set_option maxRecDepth 100000 in
set_option maxHeartbeats 1000000 in
theorem implRoadsClose_any (n : Int) (A : Option Addr) (rs : List (Int × Int × Int)) (m cap : Nat) (a b : Int) (w : World) (hl : rs.length = m) (hm : m ≤ 1048576) (hr : Rd w A (fl3 rs)) (hc : m ≤ cap) (ha : IntOk a) (hb : IntOk b) :
    Calls Try.prog 14 #[.int .i64 n, .slice A m cap, .int .i64 a, .int .i64 b] w (RetSB w 32 3 (roadsClose n rs a b).length (fl3 (roadsClose n rs a b)) (decide (0 ≤ direct n rs a b))) := by
  have Hl := hideIt hl
  clear hl
  have b0 : Below w.heap.size w ((w.alloc (.cells #[.int .i64 a] 3)).alloc (.cells #[.int .i64 b] 3)) := ((Below.refl _ _).alloc (Nat.le_refl _) _).alloc (by simp) _
  obtain ⟨f, hf⟩ : ∃ f, direct n rs a b = f := ⟨_, rfl⟩
  by_cases hd : direct n rs a b < 0
  · rw [roadsClose_f hd, decide_eq_false (by omega)]
    rw [hf] at hd
    have Hf := hideIt hf
    clear hf
    go_enter Try.func14, Try.ntmps14
    go_wp2_with fail
    refine (implRoadsDirect_any _ _ _ _ _ _ _ _ Hl.out hm ((hr.alloc _).alloc _) ha hb).mono ?_
    rw [Hf.out]
    rintro e w1 ⟨rfl, hb1⟩
    have b1 := b0.trans (hb1.mono b0.size)
    go_wp2
    go_ret2
    exact ⟨_, _, rfl, own_base (own_empty w1 32 3) b1.size, b1.alloc b1.size _⟩
  · have hd0 : 0 ≤ direct n rs a b := by omega
    obtain ⟨mm, k, rfl, hrv, hk, hkl, hhit, hdx, hab, hex⟩ := direct_at hd0
    clear hdx hex
    have l16 := hrv.l16
    rw [roadsClose_t hd0 hk, decide_eq_true hd0, without_len k hkl]
    rw [hf] at hd0
    have Hk := hideIt hk
    have Hf := hideIt hf
    rw [Hl.out] at l16 hkl ⊢
    obtain ⟨bb, off, rfl⟩ := hr.at0 (by rw [Hl.out]; omega)
    clear hf hd hk hrv hhit
    go_enter Try.func14, Try.ntmps14
    go_wp2_with fail
    refine (implRoadsDirect_any _ _ _ _ _ _ _ _ Hl.out hm ((hr.alloc _).alloc _) ha hb).mono ?_
    rw [Hf.out]
    rintro e w1 ⟨rfl, hb1⟩
    have b1 := b0.trans (hb1.mono b0.size)
    have ca : w1.cell? ⟨w.heap.size, 0, none⟩ = some (.int .i64 a) := (hb1.cell (p := ⟨w.heap.size, 0, none⟩) (by simp; omega)).trans (by simp)
    have cb : w1.cell? ⟨w.heap.size + 1, 0, none⟩ = some (.int .i64 b) := (hb1.cell (p := ⟨w.heap.size + 1, 0, none⟩) (by simp)).trans (by simp)
    clear hb1
    go_wp2_with fail
    refine (indexFuncRoad_any _ _ _ _ _ _ _ _ _ Hl.out hm (hr.below b1 (Nat.le_refl _)) hab ca cb).mono ?_
    rw [Hk.out]
    rintro e w2 ⟨rfl, hb2⟩
    have b2 := b1.trans (hb2.mono b1.size)
    go_wp2_with fail
    refine (withoutRoad_any _ _ _ _ _ _ _ Hl.out hm (hr.below b2 (Nat.le_refl _)) hc hkl).mono ?_
    rintro e w3 ⟨A3, c3, rfl, ho3, hb3⟩
    go_wp2
    go_ret2
    exact ⟨_, _, rfl, own_base ho3 b2.size, b2.trans (hb3.mono b2.size)⟩
end Go.Proofs.Ytdnjeahbnidefaa

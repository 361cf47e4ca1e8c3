/- Walks: PartsSell of the program and of the reference. -/
import Derived.Test.YtfnpkbfgemcbaaaPs2
import Derived.Test.YtfnpkbfgemcbaaaPlLaw
namespace Go.Proofs.Ytfnpkbfgemcbaaa
open Go.RowKit

/-- the owners when the miles from f to t are sold to o -/
def soldO (os : List Int) (f t o : Int) : List Int := (List.range os.length).map fun (i : Nat) => if f ≤ (i : Int) ∧ (i : Int) < t then o else os.getD i 0
theorem soldO_len (os : List Int) (f t o : Int) : (soldO os f t o).length = os.length := by simp [soldO]
theorem soldO_at (os : List Int) (f t o : Int) {i : Nat} (h : i < os.length) : (soldO os f t o).getD i 0 = if f ≤ (i : Int) ∧ (i : Int) < t then o else os.getD i 0 := by
  unfold soldO
  rw [List.getD_eq_getElem?_getD, List.getElem?_map, List.getElem?_range h]
  rfl
theorem soldO_snd (ps : List (Int × Int)) (f t o : Int) : soldO (owners ps) f t o = ((upto (mileAt ps) (owners ps).length).map (soldOne f t o)).map (·.2) := by
  unfold soldO upto
  rw [List.map_map, List.map_map]
  apply List.map_congr_left
  intro i _
  rfl
theorem soldO_none (os : List Int) (f o : Int) : soldO os f f o = os := by
  apply List.ext_getElem
  · simp [soldO]
  · intro i h1 h2
    simp only [soldO, List.getElem_map, List.getElem_range]
    rw [if_neg (by omega), List.getD_eq_getElem?_getD, List.getElem?_eq_getElem h2]
    rfl
theorem soldO_set (os : List Int) (f o : Int) {k : Nat} (hf : f ≤ (k : Int)) (_hk : k < os.length) : (soldO os f k o).set k o = soldO os f ((k : Int) + 1) o := by
  apply List.ext_getElem
  · simp [soldO]
  · intro i h1 h2
    by_cases e : k = i
    · subst e
      rw [List.getElem_set_self]
      simp only [soldO, List.getElem_map, List.getElem_range]
      rw [if_pos (by omega)]
    · rw [List.getElem_set_ne e]
      simp only [soldO, List.getElem_map, List.getElem_range]
      by_cases c : f ≤ (i : Int) ∧ (i : Int) < k
      · rw [if_pos c, if_pos (by omega)]
      · rw [if_neg c, if_neg (by omega)]
def rideOk (ps : List (Int × Int)) (f t : Int) : Bool := partsValid ps && (decide (0 ≤ f) && (decide (f < t) && decide (t ≤ sumB ps)))
def sellIn (ps : List (Int × Int)) (f t o : Int) : Bool := rideOk ps f t && (decide (0 ≤ o) && decide (o ≤ 5))
def sellOk (ps : List (Int × Int)) (f t o : Int) : Bool := sellIn ps f t o && partsValid (plain (soldO (owners ps) f t o))
def partsSell (ps : List (Int × Int)) (f t o : Int) : List (Int × Int) := if sellOk ps f t o = true then plain (soldO (owners ps) f t o) else []
theorem rideOk_t {ps : List (Int × Int)} {f t : Int} (h : rideOk ps f t = true) : partsValid ps = true ∧ 0 ≤ f ∧ f < t ∧ t ≤ sumB ps ∧ sumB ps = (owners ps).length ∧ (owners ps).length ≤ 1188 := by
  simp only [rideOk, Bool.and_eq_true, decide_eq_true_eq] at h
  exact ⟨h.1, h.2.1, h.2.2.1, h.2.2.2, sumB_owners h.1, owners_le h.1⟩
theorem sellIn_t {ps : List (Int × Int)} {f t o : Int} (h : sellIn ps f t o = true) : rideOk ps f t = true ∧ 0 ≤ o ∧ o ≤ 5 := by
  simp only [sellIn, Bool.and_eq_true, decide_eq_true_eq] at h
  exact ⟨h.1, h.2.1, h.2.2⟩
theorem partsSell_f {ps : List (Int × Int)} {f t o : Int} (h : sellOk ps f t o = false) : partsSell ps f t o = [] := by rw [partsSell, h]; rfl
theorem sellOk_no {ps : List (Int × Int)} {f t o : Int} (h : sellIn ps f t o = false) : sellOk ps f t o = false := by rw [sellOk, h]; rfl
theorem partsSell_le (ps : List (Int × Int)) (f t o : Int) : (partsSell ps f t o).length ≤ 1048576 := by
  cases h : sellOk ps f t o
  · rw [partsSell_f h]; simp
  · rw [partsSell, if_pos h]
    have h2 := h
    rw [sellOk, Bool.and_eq_true] at h2
    have := (partsValid_len h2.2).2
    omega
set_option maxRecDepth 100000 in
set_option maxHeartbeats 1000000 in
theorem rideValid_any (A : Option Addr) (ps : List (Int × Int)) (n cap : Nat) (f t : Int) (r : Bool) (w : World) (hl : ps.length = n) (hn : n ≤ 1048576) (hr : Rd w A (fl2 ps)) (hok : rideOk ps f t = r) :
    Calls Try.prog 41 #[.slice A n cap, .int .i64 f, .int .i64 t] w (Ret w (.bool r)) := by
  cases hv : partsValid ps
  · obtain rfl : false = r := by rw [← hok, rideOk, hv]; rfl
    have Hv := hideIt hv
    clear hv hok
    go_enter Try.func41, Try.ntmps41
    go_wp2_with fail
    refine (implPartsValid_any _ _ _ _ _ _ hl hn hr Hv.out).mono ?_
    rintro e w1 ⟨rfl, hb1⟩
    go_wp2
    go_ret
    exact ⟨rfl, hb1⟩
  have hr' : (decide (0 ≤ f) && (decide (f < t) && decide (t ≤ sumB ps))) = r := by rw [← hok, rideOk, hv]; rfl
  have HL := hideIt (show partsLength ps = sumB ps by rw [partsLength, if_pos hv])
  have Hv := hideIt hv
  obtain ⟨S, hS⟩ : ∃ S, sumB ps = S := ⟨_, rfl⟩
  rw [hS] at hr' HL
  clear hv hok hS
  by_cases c0 : 0 ≤ f
  · by_cases c1 : f < t
    · by_cases c2 : t ≤ S
      · obtain rfl : true = r := by rw [← hr', decide_eq_true c0, decide_eq_true c1, decide_eq_true c2]; rfl
        clear hr'
        go_enter Try.func41, Try.ntmps41
        go_wp2_with fail
        refine (implPartsValid_any _ _ _ _ _ _ hl hn hr Hv.out).mono ?_
        rintro e w1 ⟨rfl, hb1⟩
        go_wp2_with fail
        refine (implPartsLength_any _ _ _ _ _ hl hn (hr.below hb1 (Nat.le_refl _))).mono ?_
        rw [HL.out]
        rintro e w2 ⟨rfl, hb2⟩
        go_wp2
        go_ret
        exact ⟨ret_bool (by simp), hb1.trans (hb2.mono hb1.size)⟩
      · obtain rfl : false = r := by rw [← hr', decide_eq_false c2]; simp
        clear hr'
        go_enter Try.func41, Try.ntmps41
        go_wp2_with fail
        refine (implPartsValid_any _ _ _ _ _ _ hl hn hr Hv.out).mono ?_
        rintro e w1 ⟨rfl, hb1⟩
        go_wp2_with fail
        refine (implPartsLength_any _ _ _ _ _ hl hn (hr.below hb1 (Nat.le_refl _))).mono ?_
        rw [HL.out]
        rintro e w2 ⟨rfl, hb2⟩
        go_wp2
        go_ret
        exact ⟨ret_bool (by simpa using c2), hb1.trans (hb2.mono hb1.size)⟩
    · obtain rfl : false = r := by rw [← hr', decide_eq_false c1]; simp
      clear hr'
      go_enter Try.func41, Try.ntmps41
      go_wp2_with fail
      refine (implPartsValid_any _ _ _ _ _ _ hl hn hr Hv.out).mono ?_
      rintro e w1 ⟨rfl, hb1⟩
      go_wp2
      go_ret
      exact ⟨ret_bool (by simp), hb1⟩
  · obtain rfl : false = r := by rw [← hr', decide_eq_false c0]; rfl
    clear hr'
    go_enter Try.func41, Try.ntmps41
    go_wp2_with fail
    refine (implPartsValid_any _ _ _ _ _ _ hl hn hr Hv.out).mono ?_
    rintro e w1 ⟨rfl, hb1⟩
    go_wp2
    go_ret
    exact ⟨ret_bool (by simp), hb1⟩
theorem soldMiles_any (b off n cap : Nat) (f t o : Int) (w : World) :
    Calls Try.prog 43 #[.slice (some ⟨b, off, none⟩) n cap, .int .i64 f, .int .i64 t, .int .i64 o] w fun e w' => e = .returned (.func (.func 60) #[] #[.pointer (some ⟨w.heap.size, 0, none⟩), .pointer (some ⟨w.heap.size + 1, 0, none⟩), .pointer (some ⟨w.heap.size + 1 + 1, 0, none⟩), .pointer (some ⟨w.heap.size + 1 + 1 + 1, 0, none⟩)]) ∧
      w' = (((w.alloc (.cells #[.slice (some ⟨b, off, none⟩) n cap] 24)).alloc (.cells #[.int .i64 f] 3)).alloc (.cells #[.int .i64 t] 3)).alloc (.cells #[.int .i64 o] 3) := by
  go_enter Try.func43, Try.ntmps43
  go_wp2
  go_ret
  exact ⟨rfl, rfl⟩
theorem sell_worlds (b off n cap : Nat) (f t o : Int) (w : World) : ∃ w', w' = (((w.alloc (.cells #[.slice (some ⟨b, off, none⟩) n cap] 24)).alloc (.cells #[.int .i64 f] 3)).alloc (.cells #[.int .i64 t] 3)).alloc (.cells #[.int .i64 o] 3) ∧ Below w.heap.size w w' ∧ Boxed w' w.heap.size 24 (.slice (some ⟨b, off, none⟩) n cap) ∧ Boxed w' (w.heap.size + 1) 3 (.int .i64 f) ∧ Boxed w' (w.heap.size + 1 + 1) 3 (.int .i64 t) ∧ Boxed w' (w.heap.size + 1 + 1 + 1) 3 (.int .i64 o) := by
  refine ⟨_, rfl, ((((Below.refl _ w).alloc (Nat.le_refl _) _).alloc (by simp) _).alloc (by simp; omega) _).alloc (by simp; omega) _, (((Boxed.new w 24 _).alloc _).alloc _).alloc _, ?_, ?_, ?_⟩
  · have := ((Boxed.new (w.alloc (.cells #[.slice (some ⟨b, off, none⟩) n cap] 24)) 3 (.int .i64 f)).alloc (.cells #[.int .i64 t] 3)).alloc (.cells #[.int .i64 o] 3)
    simpa using this
  · have := (Boxed.new ((w.alloc (.cells #[.slice (some ⟨b, off, none⟩) n cap] 24)).alloc (.cells #[.int .i64 f] 3)) 3 (.int .i64 t)).alloc (.cells #[.int .i64 o] 3)
    simpa using this
  · have := Boxed.new (((w.alloc (.cells #[.slice (some ⟨b, off, none⟩) n cap] 24)).alloc (.cells #[.int .i64 f] 3)).alloc (.cells #[.int .i64 t] 3)) 3 (.int .i64 o)
    simpa using this
set_option maxRecDepth 100000 in
set_option maxHeartbeats 1000000 in
theorem implPartsSell_any (A : Option Addr) (ps : List (Int × Int)) (n cap : Nat) (f t o : Int) (w : World) (hl : ps.length = n) (hn : n ≤ 1048576) (hr : Rd w A (fl2 ps)) :
    Calls Try.prog 12 #[.slice A n cap, .int .i64 f, .int .i64 t, .int .i64 o] w (RetSB w 38 2 (partsSell ps f t o).length (fl2 (partsSell ps f t o)) (sellOk ps f t o)) := by
  cases hok : rideOk ps f t
  · have hs := sellOk_no (o := o) (show sellIn ps f t o = false by rw [sellIn, hok]; rfl)
    rw [hs, partsSell_f hs]
    have Hok := hideIt hok
    clear hok hs
    go_enter Try.func12, Try.ntmps12
    go_wp2_with fail
    refine (rideValid_any _ _ _ _ _ _ _ _ hl hn hr Hok.out).mono ?_
    rintro e w1 ⟨rfl, hb1⟩
    go_wp2
    go_ret2
    exact ⟨_, _, rfl, own_base (own_empty w1 38 2) hb1.size, hb1.alloc hb1.size _⟩
  have Hok := hideIt hok
  by_cases c0 : 0 ≤ o
  rotate_left
  · have hs := sellOk_no (show sellIn ps f t o = false by rw [sellIn, decide_eq_false c0]; simp)
    rw [hs, partsSell_f hs]
    clear hok hs
    go_enter Try.func12, Try.ntmps12
    go_wp2_with fail
    refine (rideValid_any _ _ _ _ _ _ _ _ hl hn hr Hok.out).mono ?_
    rintro e w1 ⟨rfl, hb1⟩
    go_wp2
    go_ret2
    exact ⟨_, _, rfl, own_base (own_empty w1 38 2) hb1.size, hb1.alloc hb1.size _⟩
  by_cases c1 : o ≤ 5
  rotate_left
  · have hs := sellOk_no (show sellIn ps f t o = false by rw [sellIn, decide_eq_false c1]; simp)
    rw [hs, partsSell_f hs]
    clear hok hs
    go_enter Try.func12, Try.ntmps12
    go_wp2_with fail
    refine (rideValid_any _ _ _ _ _ _ _ _ hl hn hr Hok.out).mono ?_
    rintro e w1 ⟨rfl, hb1⟩
    go_wp2
    go_ret2
    exact ⟨_, _, rfl, own_base (own_empty w1 38 2) hb1.size, hb1.alloc hb1.size _⟩
  have hin : sellIn ps f t o = true := by rw [sellIn, hok, decide_eq_true c0, decide_eq_true c1]; rfl
  obtain ⟨hv, _, _, _, _, hle⟩ := rideOk_t hok
  have hp : sellOk ps f t o = partsValid (plain (soldO (owners ps) f t o)) := by rw [sellOk, hin]; rfl
  have hq : partsSell ps f t o = plainIf (soldO (owners ps) f t o) := by rw [partsSell, plainIf, hp]
  rw [hp, hq]
  have Hv := hideIt hv
  have hn1 := (partsValid_len hv).1
  subst hl
  obtain ⟨b, off, rfl, hb, hc⟩ := hr.at2 hn1
  have hol : (soldO (owners ps) f t o).length ≤ 1188 := by rw [soldO_len]; exact hle
  have hsl : ((upto (mileAt ps) (owners ps).length).map (soldOne f t o)).length ≤ 1188 := by rw [List.length_map, upto_len]; exact hle
  clear hok hp hq hin hv hle
  go_enter Try.func12, Try.ntmps12
  go_wp2_with fail
  refine (rideValid_any _ _ _ _ _ _ _ _ rfl hn hr Hok.out).mono ?_
  rintro e w1 ⟨rfl, hb1⟩
  go_wp2_with fail
  refine (soldMiles_any _ _ _ _ _ _ _ _).mono ?_
  rintro e w2 ⟨rfl, rfl⟩
  obtain ⟨w2, hw2, hB2, x1, x2, x3, x4⟩ := sell_worlds b off ps.length cap f t o w1
  rw [← hw2]
  have hB := hb1.trans (hB2.mono hb1.size)
  clear hw2
  go_wp2_with fail
  refine (plainOf_goes 60 _ (enters_of Try.func60 (by kernel_rfl) rfl) _ (soldO (owners ps) f t o) (soldO_snd ps f t o) hol _ hsl
    (sold_iter _ _ _ _ b off cap ps Hv.out f t o w2 (by have := hB.size; omega) x1 x2 x3 x4
      (fun i hi => ⟨(hB.cell (p := ⟨b, off + i * 2, none⟩) hb).trans (hc i hi).1, (hB.cell (p := ⟨b, off + i * 2 + 1, none⟩) hb).trans (hc i hi).2⟩))).mono ?_
  rintro e w3 ⟨A3, c3, rfl, ho3, hb3⟩
  go_wp2
  go_ret2
  exact ⟨_, _, rfl, own_base ho3 hB.size, hB.trans (hb3.mono hB.size)⟩
end Go.Proofs.Ytfnpkbfgemcbaaa

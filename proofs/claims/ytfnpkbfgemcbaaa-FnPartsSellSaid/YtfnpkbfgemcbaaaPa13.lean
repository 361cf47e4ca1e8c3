/- Walks: PartsMiles of the program and of the reference. -/
import Derived.Test.YtfnpkbfgemcbaaaPa12
namespace Go.Proofs.Ytfnpkbfgemcbaaa
open Go.RowKit

theorem cnt_rep (o : Int) (_hi : Nat) : ∀ (q : Nat) (out : List Int), o.toNat < out.length → (List.replicate q o).foldl (fun (out : List Int) (o : Int) => out.set o.toNat (out.getD o.toNat 0 + 1)) out = out.set o.toNat (out.getD o.toNat 0 + q) := by
  intro q
  induction q with
  | zero =>
    intro out h
    rw [List.replicate_zero, List.foldl_nil, List.getD_eq_getElem?_getD, List.getElem?_eq_getElem h]
    simp
  | succ q ih =>
    intro out h
    rw [List.replicate_succ, List.foldl_cons, ih _ (by rw [List.length_set]; exact h), List.set_set]
    congr 1
    rw [List.getD_eq_getElem?_getD, List.getElem?_set_self h]
    simp only [Option.getD_some]
    omega
theorem cnt_owners : ∀ (ps : List (Int × Int)) (out : List Int), out.length = 6 → (∀ p ∈ ps, pOk p = true) →
    (owners ps).foldl (fun (out : List Int) (o : Int) => out.set o.toNat (out.getD o.toNat 0 + 1)) out = ps.foldl milesStep out := by
  intro ps
  induction ps with
  | nil => intro out _ _; rfl
  | cons p ps ih =>
    intro out hl h
    have hp := h p (by simp)
    simp only [pOk, Bool.and_eq_true, decide_eq_true_eq] at hp
    rw [owners, List.flatMap_cons, List.foldl_append, cnt_rep p.1 0 _ _ (by omega), List.foldl_cons]
    have e : out.set p.1.toNat (out.getD p.1.toNat 0 + (p.2.toNat : Int)) = milesStep out p := by unfold milesStep; rw [Int.toNat_of_nonneg (by omega)]
    rw [e]
    exact ih _ (by rw [milesStep_len, hl]) (fun q hq => h q (by simp [hq]))
theorem workSum_all (os : List Int) (L : Int) (hL : os.length ≤ L) : ∀ (n : Nat), n ≤ os.length → ∀ (f : Nat → Int), (∀ j, j < n → f j = os.getD j 0) →
    workSum 0 L (upto (fun j => (j, f j)) n) = (os.take n).foldl (fun (out : List Int) (o : Int) => out.set o.toNat (out.getD o.toNat 0 + 1)) (List.replicate 6 0) := by
  intro n
  induction n with
  | zero => intro _ f _; rfl
  | succ n ih =>
    intro h f hf
    rw [upto_succ, workSum_snoc, ih (by omega) f (fun j hj => hf j (by omega)), take_snoc' 0 os n (by omega), List.foldl_append]
    unfold workStep
    rw [if_pos ⟨by simp, by dsimp only; omega⟩, hf n (by omega)]
    rfl
theorem workedOf_miles {ps : List (Int × Int)} (hv : partsValid ps = true) : workedOf ps 0 (sumB ps) = miles ps := by
  have hv' := hv
  simp only [partsValid, Bool.and_eq_true, List.all_eq_true] at hv'
  have h := workSum_all (owners ps) (sumB ps) (by rw [sumB_owners hv]; exact Int.le_refl _) (owners ps).length (Nat.le_refl _) (fun j => (owners ps).getD j 0) (fun _ _ => rfl)
  rw [List.take_length, cnt_owners ps _ (by simp) hv'.2] at h
  exact h

/-- what PartsMiles returns -/
def partsMiles (ps : List (Int × Int)) : List Int := if partsValid ps = true then miles ps else []
theorem partsMiles_le (ps : List (Int × Int)) : (partsMiles ps).length ≤ 1048576 := by unfold partsMiles; split <;> simp [miles_len]
theorem partsMiles_t {ps : List (Int × Int)} (h : partsValid ps = true) : partsMiles ps = miles ps := by unfold partsMiles; rw [if_pos h]
theorem partsMiles_f {ps : List (Int × Int)} (h : partsValid ps = false) : partsMiles ps = [] := by unfold partsMiles; rw [h]; rfl

set_option maxHeartbeats 400000 in
theorem implPartsMiles_any (A : Option Addr) (ps : List (Int × Int)) (n cap : Nat) (w : World) (hl : ps.length = n) (hn : n ≤ 1048576) (hr : Rd w A (fl2 ps)) :
    Calls Try.prog 20 #[.slice A n cap] w (RetSB w 3 1 (partsMiles ps).length (fl1 (partsMiles ps)) (partsValid ps)) := by
  cases hv : partsValid ps
  · have Hv := hideIt hv
    clear hv
    rw [partsMiles_f Hv.out]
    go_enter Try.func20, Try.ntmps20
    go_wp2_with fail
    refine (implPartsValid_any _ _ _ _ _ _ hl hn hr Hv.out).mono ?_
    rintro e w1 ⟨rfl, hb1⟩
    go_wp2
    go_ret2
    exact ⟨_, _, rfl, own_base (own_empty w1 3 1) hb1.size, hb1.alloc hb1.size _⟩
  · have Hv := hideIt hv
    clear hv
    rw [partsMiles_t Hv.out, miles_len, ← workedOf_miles Hv.out]
    have Hpl := hideIt (show partsLength ps = sumB ps by rw [partsLength, if_pos Hv.out])
    go_enter Try.func20, Try.ntmps20
    go_wp2_with fail
    refine (implPartsValid_any _ _ _ _ _ _ hl hn hr Hv.out).mono ?_
    rintro e w1 ⟨rfl, hb1⟩
    go_wp2_with fail
    refine (implPartsLength_any _ _ _ _ _ hl hn (hr.below hb1 (Nat.le_refl _))).mono ?_
    rintro e w2 ⟨rfl, hb2⟩
    have hb := hb1.trans (hb2.mono hb1.size)
    rw [Hpl.out]
    go_wp2_with fail
    refine (worked_any _ _ _ _ _ _ _ hl (hr.below hb (Nat.le_refl _)) Hv.out).mono ?_
    rintro e w3 ⟨A3, c3, rfl, ho3, hb3⟩
    go_wp2
    go_ret2
    exact ⟨_, _, rfl, own_base ho3 hb.size, hb.trans (hb3.mono hb.size)⟩

end Go.Proofs.Ytfnpkbfgemcbaaa

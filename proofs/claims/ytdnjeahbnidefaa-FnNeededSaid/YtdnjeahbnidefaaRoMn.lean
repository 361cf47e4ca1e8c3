/- Walks: l1Many, RoadsMany of the reference. -/
import Derived.Test.YtdnjeahbnidefaaRoMany
import Derived.Test.YtdnjeahbnidefaaRoWy2
namespace Go.Proofs.Ytdnjeahbnidefaa
open Go.RowKit

/-- a step's share -/
def share1 (n : Nat) (rs : List (Int × Int × Int)) (b a v : Nat) : Int := if nx n rs b a v = true then many n rs b v else 0
theorem RV.share_in {n : Nat} {rs : List (Int × Int × Int)} (h : RV n rs) {b a : Nat} (hb : b < n) (ha : a < n) (h0 : 0 ≤ dist n rs b a) (v : Nat) : 0 ≤ share1 n rs b a v ∧ share1 n rs b a v ≤ 2097152 := by
  unfold share1
  split
  · rename_i hx
    obtain ⟨hv, h1, _⟩ := h.nx_less hb ha h0 hx
    have := h.many_in hb hv h1
    omega
  · omega
set_option maxRecDepth 100000 in
set_option maxHeartbeats 4000000 in
theorem l1Many_any (nn m cap t gf cf base : Nat) (A : Option Addr) (rs : List (Int × Int × Int)) (hl : rs.length = m) (hv : RV nn rs) (ht : t < nn) : ∀ (q a : Nat) (w : World), Rd w A (fl3 rs) → w.ownsRow base 3 1 (.slice (some ⟨gf, 0, none⟩) nn cf) nn (fl1 (farList nn rs t)) → a < nn → 0 ≤ dist nn rs t a → rk nn rs t a ≤ q →
    Calls Try.prog 52 #[.int .i64 nn, .slice A m cap, .slice (some ⟨gf, 0, none⟩) nn cf, .int .i64 a, .int .i64 t] w (Ret w (.int .i64 (many nn rs t a))) := by
  have Hl := hideIt hl
  have Hv : Hid (RV nn rs) := hideIt hv
  have n8 := hv.n8
  have l16 := hv.l16
  rw [Hl.out] at l16
  have Hlf := hideIt (hv.farList_len ht)
  clear hl hv
  intro q
  induction q with
  | zero =>
    intro a w hr hrowF ha h0 hk
    obtain rfl : a = t := Classical.byContradiction fun hne => by
      obtain ⟨h1, h2, _⟩ := Hv.out.first_at ht ha h0 hne
      have := Hv.out.rk_less ht ha h0 h2
      omega
    go_enter Try.func52, Try.ntmps52
    go_wp2
    go_ret
    exact ⟨ret_int (many_end _ _ _).symm, Below.refl _ _⟩
  | succ q ih =>
    intro a w hr hrowF ha h0 hk
    by_cases hat : a = t
    · subst hat
      go_enter Try.func52, Try.ntmps52
      go_wp2
      go_ret
      exact ⟨ret_int (many_end _ _ _).symm, Below.refl _ _⟩
    have hne : ((a : Int) == (t : Int)) = false := by simp; omega
    have Hmany := hideIt (show many nn rs t a = sumTo (share1 nn rs t a) nn by
      rw [Hv.out.many_eq ht ha h0 hat]
      exact (sumL_filter _ _ nn).symm)
    have Hsh : Hid (∀ v, 0 ≤ share1 nn rs t a v ∧ share1 nn rs t a v ≤ 2097152) := hideIt (fun v => Hv.out.share_in ht ha h0 v)
    have Hless : Hid (∀ v, nx nn rs t a v = true → v < nn ∧ 0 ≤ dist nn rs t v ∧ a ≠ v ∧ rk nn rs t v ≤ q) := hideIt (fun v hx => by
      obtain ⟨h1, h2, _, h4⟩ := Hv.out.nx_less ht ha h0 hx
      have := Hv.out.rk_less ht ha h0 hx
      exact ⟨h1, h2, h4, by omega⟩)
    have Hfar : Hid (∀ v : Nat, 1 ≤ edge rs a v → v < nn ∧ 0 ≤ dist nn rs t v ∧ dist nn rs t v ≤ 800 ∧ a1 (farList nn rs t) v = dist nn rs t v) := hideIt (fun v he => by
      obtain ⟨_, _, _, _, v0, vn, _⟩ := Hv.out.edge_pos (show 0 ≤ edge rs a v by omega)
      have hvn : v < nn := by omega
      have hc := ((Hv.out.dist_ge_iff ht ha).1 h0).trans (Cn.one (e := eN rs) ha hvn he)
      have h1 := (Hv.out.dist_ge_iff ht hvn).2 hc
      have h2 := dist_small ((Hv.out.far_iff ht hvn).2 h1)
      rcases Hv.out.dist_at ht hvn with ⟨e, _⟩ | ⟨_, e, _⟩
      · omega
      · exact ⟨hvn, h1, e, h2.symm⟩)
    have hfa := dist_small ((Hv.out.far_iff ht ha).2 h0)
    obtain ⟨da, hda⟩ : ∃ d, dist nn rs t a = d := ⟨_, rfl⟩
    have hda8 : da ≤ 800 := by rcases Hv.out.dist_at ht ha with ⟨e, _⟩ | ⟨_, e, _⟩ <;> omega
    have hcellA := row1_a hrowF (k := a) (by rw [Hlf.out]; exact ha)
    rw [← hfa, hda] at hcellA
    rw [hda] at h0
    have Hda := hideIt hda
    have hblkF := (hrowF.lt gf rfl).2
    have hani : (a : Int) < (nn : Int) := by omega
    have hih : Hid (∀ (a : Nat) (w : World), Rd w A (fl3 rs) → w.ownsRow base 3 1 (.slice (some ⟨gf, 0, none⟩) nn cf) nn (fl1 (farList nn rs t)) → a < nn → 0 ≤ dist nn rs t a → rk nn rs t a ≤ q →
      Calls Try.prog 52 #[.int .i64 nn, .slice A m cap, .slice (some ⟨gf, 0, none⟩) nn cf, .int .i64 a, .int .i64 t] w (Ret w (.int .i64 (many nn rs t a)))) := hideIt ih
    clear hfa hda ih hk hat
    go_enter Try.func52, Try.ntmps52
    go_wp2
    go_loopw [11, 12] (fun s i wr => ∃ (v : Nat) (z : Int), v ≤ nn ∧ i = .int .i64 v ∧ s = .int .i64 z ∧ Hid (z = sumTo (share1 nn rs t a) v) ∧ 0 ≤ z ∧ z ≤ 2097152 * v ∧ Below w.heap.size w wr) (fun _ i _ => nn - (intOf i).toNat)
    case atStart => exact ⟨0, 0, by omega, rfl, rfl, hideIt rfl, by omega, by omega, Below.refl _ _⟩
    case round =>
      obtain ⟨v, z, hvn, rfl, rfl, Hz, z0, z1, bd⟩ := hrel
      have hsz := bd.size
      by_cases hlt : v < nn
      · have hvni : (v : Int) < (nn : Int) := by omega
        have hcA := (bd.cell (p := ⟨gf, a, none⟩) hblkF).trans hcellA
        have hrd := hr.below bd (Nat.le_refl _)
        have hshv := Hsh.out v
        have HZ0 := fun (hx : nx nn rs t a v = false) => hideIt (show z = sumTo (share1 nn rs t a) (v + 1) by rw [sumTo, ← Hz.out, share1, if_neg (by rw [hx]; simp)]; omega)
        rcases edge_cases rs a v with ⟨he1, he2, _⟩ | ⟨j, hj, he2, _, he4⟩
        · have HZ1 := HZ0 (by unfold nx eN; rw [he1]; rfl)
          have Hfi := hideIt he2
          clear he1 he2 HZ0 hshv
          go_wp2_with fail
          refine (l1Find_any _ _ _ _ _ _ _ Hl.out (by omega) hrd).mono ?_
          rw [Hfi.out]
          rintro e w2 ⟨rfl, rfl⟩
          by_cases hvc : v = a
          · subst hvc
            clear hrd
            go_wp2
            go_quiet (fail)
            go_wp2
            go_roundw
            case rel => exact ⟨v + 1, z, by omega, by go_num, rfl, HZ1, z0, by omega, below_dN bd _⟩
            case measure => simp [intOf]; omega
          · have hvb : ((v : Int) == (a : Int)) = false := by simp; omega
            have hvb2 : ((v : Int) != (a : Int)) = true := by simp; omega
            clear hrd hvc
            go_wp2
            go_quiet (fail)
            go_wp2
            go_roundw
            case rel => exact ⟨v + 1, z, by omega, by go_num, rfl, HZ1, z0, by omega, below_dN bd _⟩
            case measure => simp [intOf]; omega
        · obtain ⟨ed, hed⟩ : ∃ d, c3 rs j = d := ⟨_, rfl⟩
          obtain ⟨_, _, _, r4, r5⟩ := Hv.out.road j hj
          rw [hed] at he4 r4 r5
          obtain ⟨_, d0, d8, dfl⟩ := Hfar.out v (by omega)
          have hva : v ≠ a := by
            have := Hv.out.edge_pos (show 0 ≤ edge rs a v by omega)
            omega
          obtain ⟨dx, hdx⟩ : ∃ d, dist nn rs t v = d := ⟨_, rfl⟩
          rw [hdx] at d0 d8 dfl
          have hcV := row1_a hrowF (k := v) (by rw [Hlf.out]; exact hlt)
          rw [dfl] at hcV
          have hcV2 := (bd.cell (p := ⟨gf, v, none⟩) hblkF).trans hcV
          have Hfi := hideIt he2
          have hvb : ((v : Int) == (a : Int)) = false := by simp; omega
          have hvb2 : ((v : Int) != (a : Int)) = true := by simp; omega
          have hjm : (j : Int) < (m : Int) := by rw [← Hl.out]; omega
          have hj0 : (0 : Int) ≤ (j : Int) := by omega
          have hsum := IntWalk.i64_in (ed + dx) (by omega)
          have Hnxv := hideIt (show nx nn rs t a v = decide (ed + dx = da) by
            unfold nx eN
            rw [he4, hdx, Hda.out, decide_eq_true r4, Bool.true_and])
          go_wp2_with fail
          refine (l1Find_any _ _ _ _ _ _ _ Hl.out (by omega) hrd).mono ?_
          rw [Hfi.out]
          rintro e w2 ⟨rfl, rfl⟩
          obtain ⟨br, offr, rfl, hblk, hcc⟩ := hrd.at3 hj
          obtain ⟨_, _, hcR⟩ := hcc j hj
          rw [hed] at hcR
          clear hed hdx dfl hcV hcc he2 he4 hj hva
          by_cases hq : ed + dx = da
          · have hqb : (ed + dx == da) = true := by simpa using hq
            have hx := Hnxv.out
            rw [decide_eq_true hq] at hx
            obtain ⟨_, l2, _, l4⟩ := Hless.out v hx
            have hmv := Hv.out.many_in ht hlt l2
            have Hl2 := hideIt l2
            have Hl4 := hideIt l4
            obtain ⟨mv, hmve⟩ : ∃ x, many nn rs t v = x := ⟨_, rfl⟩
            have HZ1 := hideIt (show z + mv = sumTo (share1 nn rs t a) (v + 1) by rw [sumTo, ← Hz.out, share1, if_pos hx, hmve])
            rw [hmve] at hmv
            have Hmve := hideIt hmve
            have hrowD := fun k => ownD (own_below hrowF bd (Nat.le_refl _)) k
            have hrdD := fun (k : Nat) => hrd.below (below_dN (Below.refl wr.heap.size wr) k) (Nat.le_refl _)
            have HrowD := hideIt hrowD
            have HrdD := hideIt hrdD
            clear hq hx HZ0 hshv l2 l4 hmve hrowD hrdD hrd
            go_wp2
            go_quiet (fail)
            go_wp2_with fail
            refine (hih.out _ _ (HrdD.out _) (HrowD.out _) hlt Hl2.out Hl4.out).mono ?_
            rw [Hmve.out]
            rintro e w4 ⟨rfl, hb4⟩
            have b4 := (below_dN bd nq).trans (hb4.mono hsz)
            go_wp2
            go_roundw
            case rel => exact ⟨v + 1, z + mv, by omega, by go_num, by go_num, HZ1, by omega, by push_cast; omega, b4⟩
            case measure => simp [intOf]; omega
          · have hqb : (ed + dx == da) = false := by simpa using hq
            have HZ1 := HZ0 (by rw [Hnxv.out, decide_eq_false hq])
            clear hq HZ0 hshv hrd
            go_wp2
            go_quiet (fail)
            go_wp2
            go_roundw
            case rel => exact ⟨v + 1, z, by omega, by go_num, rfl, HZ1, z0, by omega, below_dN bd _⟩
            case measure => simp [intOf]; omega
      · obtain rfl : v = nn := by omega
        go_wp2
        go_ret
        exact ⟨ret_int (by rw [Hmany.out, Hz.out]), bd⟩
set_option maxRecDepth 100000 in
set_option maxHeartbeats 1000000 in
theorem specRoadsMany_any (n : Int) (A : Option Addr) (rs : List (Int × Int × Int)) (m cap : Nat) (a b : Int) (w : World) (hl : rs.length = m) (hm : m ≤ 1048576) (hr : Rd w A (fl3 rs)) (ha : IntOk a) (hb : IntOk b) :
    Calls Try.prog 26 #[.int .i64 n, .slice A m cap, .int .i64 a, .int .i64 b] w (Ret w (.int .i64 (roadsMany n rs a b))) := by
  have Hl := hideIt hl
  clear hl
  obtain ⟨f, hf⟩ : ∃ f, roadsFar n rs a b = f := ⟨_, rfl⟩
  by_cases hneg : f < 0
  · rw [roadsMany_f (by omega)]
    have Hf := hideIt hf
    clear hf
    go_enter Try.func26, Try.ntmps26
    go_wp2_with fail
    refine (specRoadsFar_any _ _ _ _ _ _ _ _ Hl.out hm hr ha hb).mono ?_
    rw [Hf.out]
    rintro e w1 ⟨rfl, hb1⟩
    go_wp2
    go_ret
    exact ⟨rfl, hb1⟩
  obtain ⟨nn, s, t, rfl, rfl, rfl, hs, ht, hrv, hv, hfd⟩ := roadsFar_at (show 0 ≤ roadsFar n rs a b by omega)
  have h0t : 0 ≤ dist nn rs t s := by rw [← hrv.dist_comm hs ht]; omega
  rw [roadsMany_t (by omega)]
  have Hf := hideIt hf
  have Hrv : Hid (RV nn rs) := hideIt hrv
  have H0t := hideIt h0t
  obtain ⟨M, hM⟩ : ∃ M, many nn rs t s = M := ⟨_, rfl⟩
  rw [hM]
  have HM := hideIt hM
  have hf0 : 0 ≤ f := by omega
  clear hf hneg hrv hv hfd h0t hM
  go_enter Try.func26, Try.ntmps26
  go_wp2_with fail
  refine (specRoadsFar_any _ _ _ _ _ _ _ _ Hl.out hm hr ha hb).mono ?_
  rw [Hf.out]
  rintro e w1 ⟨rfl, hb1⟩
  go_wp2_with fail
  refine (l1Far_any _ _ _ _ _ _ _ Hl.out (hr.below hb1 (Nat.le_refl _)) Hrv.out ht).mono ?_
  rintro e w3 ⟨gf, cf, rfl, hrowF, hb2⟩
  have b3 := hb1.trans (hb2.mono hb1.size)
  go_wp2_with fail
  refine (l1Many_any nn m cap t gf cf _ A rs Hl.out Hrv.out ht _ s w3 (hr.below b3 (Nat.le_refl _)) hrowF hs H0t.out (Nat.le_refl _)).mono ?_
  rw [HM.out]
  rintro e w4 ⟨rfl, hb4⟩
  go_wp2
  go_ret
  exact ⟨rfl, b3.trans (hb4.mono b3.size)⟩
theorem specRoadsMany_w (n : Int) (A : Option Addr) (rs : List (Int × Int × Int)) (m cap : Nat) (a b : Int) (w : World) (_wn : IntOk n) (hl : rs.length = m) (hm : m ≤ 1048576) (hr : Rd w A (fl3 rs)) (ha : IntOk a) (hb : IntOk b) :
    Calls Try.prog 26 #[.int .i64 n, .slice A m cap, .int .i64 a, .int .i64 b] w (Ret w (.int .i64 (roadsMany n rs a b))) := specRoadsMany_any n A rs m cap a b w hl hm hr ha hb
end Go.Proofs.Ytdnjeahbnidefaa

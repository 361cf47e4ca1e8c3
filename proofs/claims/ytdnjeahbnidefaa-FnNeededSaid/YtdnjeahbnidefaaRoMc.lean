/- Walks: RoadsMany of the program (a closure that calls itself and remembers). -/
import Derived.Test.YtdnjeahbnidefaaRoMn
import Derived.Shelf.Abstract
import Derived.Laws.EntriesVeiled
namespace Go.Proofs.Ytdnjeahbnidefaa
open Go.RowKit

theorem grown_two {w w1 w2 : World} {g : Nat} (h : w.grownBy w1 (some g)) (h2 : w1.grownBy w2 (some g)) : w.grownBy w2 (some g) :=
  ⟨h2.os.trans h.os, h2.tape.trans h.tape, h2.output.trans h.output, Nat.le_trans h.size h2.size, fun k hk hne => (h2.block k (Nat.lt_of_lt_of_le hk h.size) hne).trans (h.block k hk hne)⟩
/-- what is remembered is right -/
def Known (n : Nat) (rs : List (Int × Int × Int)) (t : Nat) (K : Int → Int) : Prop := K t = 1 ∧ ∀ x : Int, 0 ≤ K x → ∃ v : Nat, x = v ∧ v < n ∧ 0 ≤ dist n rs t v ∧ K x = many n rs t v
/-- what the closure finds -/
structure CEnv (w : World) (p1 p2 p3 p4 kb bm fb base n t : Nat) (rs : List (Int × Int × Int)) (gm : Nat → Nat) (K : Int → Int) (N s : Nat) : Prop where
  c1 : w.cell? ⟨p1, 0, none⟩ = some (.map (some kb))
  c2 : w.cell? ⟨p2, 0, none⟩ = some (.map (some bm))
  c3 : w.cell? ⟨p3, 0, none⟩ = some (.map (some fb))
  c4 : w.cell? ⟨p4, 0, none⟩ = some (.func (.func 47) #[] #[.pointer (some ⟨p1, 0, none⟩), .pointer (some ⟨p2, 0, none⟩), .pointer (some ⟨p3, 0, none⟩), .pointer (some ⟨p4, 0, none⟩)])
  rm : RMap w base bm n (edge rs) 64 gm
  fi : ∃ st, IM w fb (farF n rs t) 64 st
  ki : IM w kb K N s
  kn : Known n rs t K
  ne : p1 ≠ kb ∧ p2 ≠ kb ∧ p3 ≠ kb ∧ p4 ≠ kb
  nm : kb ≠ bm ∧ ∀ t, t < n → kb ≠ gm t
  nf : fb ≠ kb
section
variable {w w' : World} {p1 p2 p3 p4 kb bm fb base n t N s N' s' : Nat} {rs : List (Int × Int × Int)} {gm : Nat → Nat} {K K' : Int → Int}
theorem CEnv.below (h : CEnv w p1 p2 p3 p4 kb bm fb base n t rs gm K N s) (hb : Below w.heap.size w w') : CEnv w' p1 p2 p3 p4 kb bm fb base n t rs gm K N s := by
  have hc := fun (p : Nat) (v : Value) (hp : w.cell? ⟨p, 0, none⟩ = some v) => (hb.cell (p := ⟨p, 0, none⟩) (World.block_lt_of_cell? w _ hp)).trans hp
  obtain ⟨st, hf⟩ := h.fi
  exact ⟨hc _ _ h.c1, hc _ _ h.c2, hc _ _ h.c3, hc _ _ h.c4, h.rm.below hb (Nat.le_refl _), ⟨st, hf.below hb (Nat.le_refl _)⟩, h.ki.below hb (Nat.le_refl _), h.kn, h.ne, h.nm, h.nf⟩
theorem CEnv.stored (h : CEnv w p1 p2 p3 p4 kb bm fb base n t rs gm K N s) (hg : w.grownBy w' (some kb)) (hi : IM w' kb K' N' s') (hk : Known n rs t K') : CEnv w' p1 p2 p3 p4 kb bm fb base n t rs gm K' N' s' := by
  obtain ⟨e1, e2, e3, e4⟩ := h.ne
  have hc := fun (p : Nat) (v : Value) (hp : w.cell? ⟨p, 0, none⟩ = some v) (hne : p ≠ kb) => hg.cell hp (fun e => hne (Option.some.inj e))
  obtain ⟨st, hf⟩ := h.fi
  exact ⟨hc _ _ h.c1 e1, hc _ _ h.c2 e2, hc _ _ h.c3 e3, hc _ _ h.c4 e4, rmap_map h.rm h.nm hg, ⟨st, hf.kept hg (fun e => h.nf (Option.some.inj e))⟩, hi, hk, h.ne, h.nm, h.nf⟩
theorem Known.put (h : Known n rs t K) {a : Nat} (ha : a < n) (h0 : 0 ≤ dist n rs t a) (hat : a ≠ t) : Known n rs t (updI K a (many n rs t a)) := by
  refine ⟨by rw [updI_ne _ _ (by omega)]; exact h.1, fun x hx => ?_⟩
  by_cases e : x = a
  · subst e
    exact ⟨a, rfl, ha, h0, updI_same _ _ _⟩
  · rw [updI_ne _ _ e] at hx ⊢
    exact h.2 x hx
end
/-- how often it stores at the most -/
def bnd : Nat → Nat
  | 0 => 0
  | q + 1 => 8 * bnd q + 1
def CEnd (w : World) (p1 p2 p3 p4 kb bm fb base n t : Nat) (rs : List (Int × Int × Int)) (gm : Nat → Nat) (N B : Nat) (r : Int) (e : Ending) (w' : World) : Prop :=
  ∃ (K' : Int → Int) (N' s' : Nat), e = .returned (.int .i64 r) ∧ CEnv w' p1 p2 p3 p4 kb bm fb base n t rs gm K' N' s' ∧ w.grownBy w' (some kb) ∧ N' ≤ N + B
set_option maxRecDepth 100000 in
set_option maxHeartbeats 4000000 in
theorem count_any (p1 p2 p3 p4 kb bm fb base nn t : Nat) (rs : List (Int × Int × Int)) (gm : Nat → Nat) (hv : RV nn rs) (ht : t < nn) : ∀ (q a : Nat) (w : World) (K : Int → Int) (N s : Nat), CEnv w p1 p2 p3 p4 kb bm fb base nn t rs gm K N s → a < nn → 0 ≤ dist nn rs t a → rk nn rs t a ≤ q → N + bnd q ≤ 1000000000 →
    Calls Try.prog 47 #[.int .i64 a, .pointer (some ⟨p1, 0, none⟩), .pointer (some ⟨p2, 0, none⟩), .pointer (some ⟨p3, 0, none⟩), .pointer (some ⟨p4, 0, none⟩)] w (CEnd w p1 p2 p3 p4 kb bm fb base nn t rs gm N (bnd q) (many nn rs t a)) := by
  have eg : ∀ args w, (callFunc 47 args).run Try.prog w = .ok (.enter 47 args) w := enters_of Try.func47 (by kernel_rfl) rfl
  have Hv : Hid (RV nn rs) := hideIt hv
  have n8 := hv.n8
  clear hv
  intro q
  induction q with
  | zero =>
    intro a w K N s hE ha h0 hk hN
    obtain rfl : a = t := Classical.byContradiction fun hne => by
      obtain ⟨h1, h2, _⟩ := Hv.out.first_at ht ha h0 hne
      have := Hv.out.rk_less ht ha h0 h2
      omega
    have oka : IntOk (a : Int) := by unfold IntOk; omega
    have hc1 := hE.c1
    have hK1 := hE.kn.1
    have hl1 := hE.ki.yes oka (by omega)
    rw [hK1] at hl1
    have HE := hideIt hE
    clear hE hK1
    go_enter Try.func47, Try.ntmps47
    go_wp2
    go_ret
    exact ⟨K, N, s, ret_int (many_end _ _ _).symm, HE.out, World.grownBy.refl _ _, by omega⟩
  | succ q ih =>
    intro a w K N s hE ha h0 hk hN
    have oka : IntOk (a : Int) := by unfold IntOk; omega
    have hc1 := hE.c1
    have HE := hideIt hE
    by_cases hK : 0 ≤ K a
    · have hl1 := hE.ki.yes oka hK
      obtain ⟨v, hva, _, _, hval⟩ := hE.kn.2 a hK
      obtain rfl : a = v := by omega
      obtain ⟨M, hM⟩ : ∃ M, many nn rs t a = M := ⟨_, rfl⟩
      rw [hM] at hval
      rw [hval] at hl1
      have HM := hideIt hM
      clear hE hK hval hva ih
      rw [hM]
      clear hM
      go_enter Try.func47, Try.ntmps47
      go_wp2
      go_ret
      exact ⟨K, N, s, rfl, HE.out, World.grownBy.refl _ _, by omega⟩
    have hat : a ≠ t := fun e => by
      have := hE.kn.1
      rw [e] at hK
      omega
    have hl1 := hE.ki.no oka (by omega)
    have hc2 := hE.c2
    have hc3 := hE.c3
    obtain ⟨st, hf⟩ := hE.fi
    have hkl := hE.ki.lt
    have hrm := hE.rm
    obtain ⟨P, hP⟩ : ∃ P, bnd q = P := ⟨_, rfl⟩
    have hB : bnd (q + 1) = 8 * P + 1 := by rw [bnd, hP]
    rw [hB] at hN ⊢
    have hih : Hid (∀ (a : Nat) (w : World) (K : Int → Int) (N s : Nat), CEnv w p1 p2 p3 p4 kb bm fb base nn t rs gm K N s → a < nn → 0 ≤ dist nn rs t a → rk nn rs t a ≤ q → N + P ≤ 1000000000 →
      Calls Try.prog 47 #[.int .i64 a, .pointer (some ⟨p1, 0, none⟩), .pointer (some ⟨p2, 0, none⟩), .pointer (some ⟨p3, 0, none⟩), .pointer (some ⟨p4, 0, none⟩)] w (CEnd w p1 p2 p3 p4 kb bm fb base nn t rs gm N P (many nn rs t a))) := hideIt (by rw [hP] at ih; exact ih)
    have Hmany := hideIt (show many nn rs t a = sumTo (fun i => many nn rs t ((nxs nn rs t a).getD i 0)) (nxs nn rs t a).length by
      rw [Hv.out.many_eq ht ha h0 hat]
      exact (sumL_idx _ _).symm)
    have Hless : Hid (∀ i, i < (nxs nn rs t a).length → (nxs nn rs t a).getD i 0 < nn ∧ 0 ≤ dist nn rs t ((nxs nn rs t a).getD i 0) ∧ rk nn rs t ((nxs nn rs t a).getD i 0) ≤ q ∧ 1 ≤ many nn rs t ((nxs nn rs t a).getD i 0) ∧ many nn rs t ((nxs nn rs t a).getD i 0) ≤ 2097152) := hideIt (fun i hi => by
      have hmem : (nxs nn rs t a).getD i 0 ∈ nxs nn rs t a := by
        rw [List.getD_eq_getElem?_getD, List.getElem?_eq_getElem hi]
        exact List.getElem_mem hi
      obtain ⟨h1, hx⟩ := mem_nxs.1 hmem
      obtain ⟨_, h2, _, h4⟩ := Hv.out.nx_less ht ha h0 hx
      have := Hv.out.rk_less ht ha h0 hx
      have h5 := Hv.out.many_in ht h1 h2
      exact ⟨h1, h2, by omega, h5.1, h5.2⟩)
    have hnl := nxs_len nn rs t a
    have Hmin := hideIt (Hv.out.many_in ht ha h0)
    have Hput := hideIt (fun (K' : Int → Int) (hk : Known nn rs t K') => hk.put ha h0 hat)
    obtain ⟨LL, hLL⟩ : ∃ L, (nxs nn rs t a).length = L := ⟨_, rfl⟩
    have HLL := hideIt hLL
    rw [hLL] at hnl
    have Hat := hideIt hat
    clear hE hK hP hB ih hk hat hLL
    go_enter Try.func47, Try.ntmps47
    go_wp2_with fail
    refine (nexts_any _ _ _ _ _ _ _ _ _ _ Hv.out ht ha h0 hrm hf).mono ?_
    rw [HLL.out]
    rintro e w2 ⟨A2, c2, rfl, ho2, hb2⟩
    have HE2 := hideIt (HE.out.below hb2)
    have hgw2 := grown_below hb2 (Nat.le_refl _) (some kb)
    clear hl1 hc1 hc2 hc3 hf hrm
    go_wp2
    go_loopw [9, 25] (fun s i wr => ∃ (j N' s' : Nat) (z : Int) (K' : Int → Int), j ≤ LL ∧ i = .int .i64 j ∧ s = .int .i64 z ∧ Hid (z = sumTo (fun i => many nn rs t ((nxs nn rs t a).getD i 0)) j) ∧ 0 ≤ z ∧ z ≤ 2097152 * j ∧ Hid (CEnv wr p1 p2 p3 p4 kb bm fb base nn t rs gm K' N' s') ∧ wr.ownsRow w.heap.size 3 1 (.slice A2 LL c2) LL (fl1 (castL (nxs nn rs t a))) ∧ Hid (w.grownBy wr (some kb)) ∧ N' ≤ N + j * P) (fun _ i _ => LL - (intOf i).toNat)
    case atStart => exact ⟨0, N, s, 0, K, by omega, rfl, rfl, hideIt rfl, by omega, by omega, HE2, ho2, hideIt hgw2, by omega⟩
    case round =>
      obtain ⟨j, N', s', z, K', hj, rfl, rfl, Hz, z0, z1, HEr, hor, Hgr, hNj⟩ := hrel
      clear ho2 hgw2
      have hjP : j * P ≤ 8 * P := Nat.mul_le_mul_right _ (by omega)
      by_cases hlt : j < LL
      · have hj1 : (j + 1) * P ≤ 8 * P := Nat.mul_le_mul_right _ (by omega)
        have hj2 : (j + 1) * P = j * P + P := Nat.succ_mul j P
        obtain ⟨b2, rfl, _, _⟩ := own_some hor (by omega)
        have hcell := row1_a hor (k := j) (by rw [castL_len, HLL.out]; exact hlt)
        rw [castL_at] at hcell
        obtain ⟨l1, l2, l3, l4, l5⟩ := Hless.out j (by rw [HLL.out]; exact hlt)
        obtain ⟨v, hv⟩ : ∃ v, (nxs nn rs t a).getD j 0 = v := ⟨_, rfl⟩
        rw [hv] at hcell l1 l2 l3 l4 l5
        obtain ⟨mv, hmv⟩ : ∃ x, many nn rs t v = x := ⟨_, rfl⟩
        have HZ1 := hideIt (show z + mv = sumTo (fun i => many nn rs t ((nxs nn rs t a).getD i 0)) (j + 1) by rw [sumTo, ← Hz.out, hv, hmv])
        rw [hmv] at l4 l5
        have Hmv := hideIt hmv
        have hc4 := HEr.out.c4
        have hjl : (j : Int) < (LL : Int) := by omega
        have Hl2 := hideIt l2
        have Hl3 := hideIt l3
        clear hv hmv l2 l3
        go_wp2_with (go_at_fn 47; refine (hih.out v _ K' N' s' HEr.out l1 Hl2.out Hl3.out (by omega)).mono ?_; rw [Hmv.out]; rintro e w4 ⟨K4, N4, s4, rfl, hE4, hg4, hN4⟩)
        have HE4 := hideIt hE4
        have ho4 := hor.kept hg4 (.inr (fun e => by have h1 := (hor.lt b2 rfl).1; simp [Value.ownBlock] at e; omega))
        have Hg4 := hideIt (grown_two Hgr.out hg4)
        clear hE4 hg4 hor hcell hc4
        go_roundw
        case rel => exact ⟨j + 1, N4, s4, z + mv, K4, by omega, by go_num, by go_num, HZ1, by omega, by push_cast; omega, HE4, ho4, Hg4, by omega⟩
        case measure => simp [intOf]; omega
      · obtain rfl : j = LL := by omega
        have hz : z = many nn rs t a := by rw [Hmany.out, HLL.out]; exact Hz.out
        subst hz
        have hm1 := Hmin.out
        obtain ⟨M, hM⟩ : ∃ x, many nn rs t a = x := ⟨_, rfl⟩
        have HM := hideIt hM
        have hki := HEr.out.ki
        have hc1 := HEr.out.c1
        have okz : IntOk M := by rw [← hM]; unfold IntOk; omega
        have hM0 : 0 ≤ M := by omega
        rw [hM]
        clear z0 z1 hm1 hM
        go_wp2_with (at_mapUpdate; refine wpList_storeIM _ rfl (.tmp 35) (.tmp 36) (.tmp 37) rfl rfl hki (by unfold maxLen; omega) a M rfl rfl oka okz hM0 ?_; intro w5 hi5 hg5)
        have hkn := Hput.out K' HEr.out.kn
        rw [HM.out] at hkn
        have hE5 := HEr.out.stored hg5 hi5 hkn
        have hg6 := grown_two Hgr.out hg5
        clear hi5 hg5 hkn
        go_wp2
        go_ret
        exact ⟨_, _, _, ret_int HM.out.symm, hE5, hg6, by omega⟩
theorem wpList_insertIM (w : World) {ops : Array Oper} {rest : List Oper} {o : Oper} {a : Act} {Q : Exit → Act → World → Prop}
    (hg : o.guard = none) (m x v : Operand) (hop : o.op = Op.insert 60 m x v) {b N s : Nat} {f : Int → Int} (hm : a.eval m = .map (some b)) (h : IM w b f N s) (hN : N < maxLen)
    (k val : Int) (hx : a.eval x = .int .i64 k) (hv : a.eval v = .int .i64 val) (hk : IntOk k) (hval : IntOk val) (h0 : 0 ≤ val)
    (hK : ∀ w', IM w' b (updI f k val) (N + 1) (if 0 ≤ f k then s else s + 1) → w.grownBy w' (some b) → wpList Try.prog ops Q rest (a.put o.dst undef) w') :
    wpList Try.prog ops Q (o :: rest) a w := by
  refine wpList_plain hg fun K' hK' => ?_
  obtain ⟨w', hrun, r1, r2⟩ := h.store hN hk hval h0
  unfold Oper.wp
  simp [execOp, hop, hm, hx, hv, hrun, Result.andThen]
  exact hK' _ _ (hK w' r1 r2)
set_option maxRecDepth 100000 in
set_option maxHeartbeats 4000000 in
theorem implRoadsMany_any (n : Int) (A : Option Addr) (rs : List (Int × Int × Int)) (m cap : Nat) (a b : Int) (w : World) (hl : rs.length = m) (hm : m ≤ 1048576) (hr : Rd w A (fl3 rs)) (ha : IntOk a) (hb : IntOk b) :
    Calls Try.prog 16 #[.int .i64 n, .slice A m cap, .int .i64 a, .int .i64 b] w (Ret w (.int .i64 (roadsMany n rs a b))) := by
  have eg : ∀ args w, (callFunc 47 args).run Try.prog w = .ok (.enter 47 args) w := enters_of Try.func47 (by kernel_rfl) rfl
  have Hl := hideIt hl
  clear hl
  obtain ⟨f, hf⟩ : ∃ f, roadsFar n rs a b = f := ⟨_, rfl⟩
  by_cases hneg : f < 0
  · rw [roadsMany_f (by omega)]
    have Hf := hideIt hf
    clear hf
    go_enter Try.func16, Try.ntmps16
    go_wp2_with fail
    refine (implRoadsFar_any _ _ _ _ _ _ _ _ Hl.out hm hr ha hb).mono ?_
    rw [Hf.out]
    rintro e w1 ⟨rfl, hb1⟩
    go_wp2
    go_ret
    exact ⟨rfl, hb1⟩
  obtain ⟨nn, s, t, rfl, rfl, rfl, hs, ht, hrv, hv, hfd⟩ := roadsFar_at (show 0 ≤ roadsFar n rs a b by omega)
  have h0t : 0 ≤ dist nn rs t s := by rw [← hrv.dist_comm hs ht]; omega
  rw [roadsMany_t (by omega)]
  have Hf := hideIt hf
  have Hv := hideIt hv
  have Hrv : Hid (RV nn rs) := hideIt hrv
  have H0t := hideIt h0t
  have Hrk := hideIt (show rk nn rs t s ≤ 7 by have := rk_le nn rs t hs; have := hrv.n8; omega)
  have Hself := hideIt (hrv.dist_self ht)
  have hf0 : 0 ≤ f := by omega
  have hmm := @run_makeMap Try.prog
  clear hf hneg hrv hv hfd h0t
  go_enter Try.func16, Try.ntmps16
  go_wp2_with fail
  refine (implRoadsFar_any _ _ _ _ _ _ _ _ Hl.out hm hr ha hb).mono ?_
  rw [Hf.out]
  rintro e w1 ⟨rfl, hb1⟩
  go_wp2_with fail
  refine (mapRoads_any _ _ _ _ _ _ _ Hl.out hm (hr.below hb1 (Nat.le_refl _)) Hv.out).mono ?_
  rintro e w2 ⟨v, rfl, hb2, hmk⟩
  obtain ⟨bm, m', g, hm', rfl, hmap⟩ := hmk rfl
  obtain rfl : nn = m' := by omega
  have b2 := hb1.trans (hb2.mono hb1.size)
  have hm3 := hmap.alloc (.cells #[.map (some bm)] 55)
  have b3 := b2.alloc b2.size (.cells #[.map (some bm)] 55)
  clear hmk hm' hb1 hb2 hmap
  go_wp2_with fail
  refine (distances_any _ _ _ _ _ _ _ Hrv.out ht hm3).mono ?_
  rintro e w3 ⟨fb, rfl, hfb, him, hb3⟩
  have hcm := (hb3.cell (p := ⟨w2.heap.size, 0, none⟩) (by simp)).trans (by simp : (w2.alloc (.cells #[.map (some bm)] 55)).cell? ⟨w2.heap.size, 0, none⟩ = some (.map (some bm)))
  have hrm3 := hm3.below hb3 (Nat.le_refl _)
  have b4 := b3.trans (hb3.mono b3.size)
  have hmb : w2.heap.size < w3.heap.size := by have := hb3.size; simp at this; omega
  have okt : IntOk (t : Int) := hb
  have ok1 : IntOk (1 : Int) := by unfold IntOk; omega
  have h63 : 0 < maxLen := by unfold maxLen; omega
  have him0 := IM.new (w3.alloc (.cells #[.map (some fb)] 60))
  rw [show (w3.alloc (.cells #[.map (some fb)] 60)).heap.size = w3.heap.size + 1 by simp] at him0
  clear hm3 b3
  go_wp2_with (refine wpList_insertIM _ rfl (.tmp 29) (.tmp 30) _ rfl rfl him0 h63 t 1 rfl rfl okt ok1 (by decide) ?_; intro w4 hi4 hg4)
  have hkl := hi4.lt
  have hfl := him.lt
  have hbl := hrm3.om.lt
  have hwb := b4.size
  have hcm4 := hg4.cell (cellA1 (.map #[] 0) (cellA1 (.cells #[.map (some fb)] 60) hcm)) (fun e => by have := Option.some.inj e; simp at this; omega)
  have hcf4 := hg4.cell (cellA1 (.map #[] 0) (by simp : (w3.alloc (.cells #[.map (some fb)] 60)).cell? ⟨w3.heap.size, 0, none⟩ = some (.map (some fb)))) (fun e => by have := Option.some.inj e; simp at this)
  have hb5 : ∀ o1 o2, Below w4.heap.size w4 ((w4.alloc o1).alloc o2) := fun o1 o2 => ((Below.refl _ _).alloc (Nat.le_refl _) _).alloc (by simp) _
  have hnm : w3.heap.size + 1 ≠ bm ∧ ∀ u, u < nn → w3.heap.size + 1 ≠ g u := ⟨by omega, fun u hu => by obtain ⟨q, hq⟩ := hrm3.im u hu; have := hq.lt; omega⟩
  have hrm4 := rmap_map ((hrm3.alloc (.cells #[.map (some fb)] 60)).alloc (.map #[] 0)) hnm hg4
  have hfi4 := ((him.alloc (.cells #[.map (some fb)] 60)).alloc (.map #[] 0)).kept hg4 (fun e => by have := Option.some.inj e; omega)
  have bA := ((b4.alloc hwb (.cells #[.map (some fb)] 60)).alloc (Nat.le_trans hwb (by simp)) (.map #[] 0)).grown hg4 (Nat.le_trans hwb (by simp; omega)) (fun q e => by cases e; omega)
  have hkn : Known nn rs t (updI (fun _ => -1) t 1) := ⟨updI_same _ _ _, fun x hx => by
    by_cases e : x = t
    · subst e; exact ⟨t, rfl, ht, by rw [Hself.out]; omega, by rw [updI_same, many_end]⟩
    · rw [updI_ne _ _ e] at hx; omega⟩
  have hsz4 : w3.heap.size + 2 ≤ w4.heap.size := by have := hg4.size; simp at this; omega
  refine (count_any w4.heap.size w2.heap.size w3.heap.size (w4.heap.size + 1) (w3.heap.size + 1) bm fb w1.heap.size nn t rs g Hrv.out ht 7 s _ (updI (fun _ => -1) t 1) (0 + 1) _
    ⟨by simp, ((hb5 _ _).cell (p := ⟨w2.heap.size, 0, none⟩) (by simp; omega)).trans hcm4, ((hb5 _ _).cell (p := ⟨w3.heap.size, 0, none⟩) (by simp; omega)).trans hcf4, by simp, hrm4.below (hb5 _ _) (Nat.le_refl _), ⟨_, hfi4.below (hb5 _ _) (Nat.le_refl _)⟩, hi4.below (hb5 _ _) (Nat.le_refl _), hkn, ⟨by omega, by omega, by omega, by omega⟩, hnm, by omega⟩ hs H0t.out Hrk.out (by decide)).mono ?_
  rintro e w6 ⟨K', N', s', rfl, hE6, hg6, _⟩
  have bZ := ((bA.alloc bA.size _).alloc (Nat.le_trans bA.size (by simp)) _).grown hg6 (Nat.le_trans bA.size (by simp; omega)) (fun q e => by cases e; omega)
  go_wp2
  go_ret
  exact ⟨rfl, bZ⟩
theorem implRoadsMany_w (n : Int) (A : Option Addr) (rs : List (Int × Int × Int)) (m cap : Nat) (a b : Int) (w : World) (_wn : IntOk n) (hl : rs.length = m) (hm : m ≤ 1048576) (hr : Rd w A (fl3 rs)) (ha : IntOk a) (hb : IntOk b) :
    Calls Try.prog 16 #[.int .i64 n, .slice A m cap, .int .i64 a, .int .i64 b] w (Ret w (.int .i64 (roadsMany n rs a b))) := implRoadsMany_any n A rs m cap a b w hl hm hr ha hb
end Go.Proofs.Ytdnjeahbnidefaa

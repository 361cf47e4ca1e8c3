/- Walks: RoadsNet of the program. -/
import Derived.Test.YtdnjeahbnidefaaRoOrd
import Derived.Test.YtdnjeahbnidefaaRoWh
import Derived.Test.YtdnjeahbnidefaaSlRoad
import Derived.Test.YtdnjeahbnidefaaRo8
import Derived.Deep.DeepCutAuto
namespace Go.Proofs.Ytdnjeahbnidefaa
open Go.RowKit

section
variable {n : Nat} {rs : List (Int × Int × Int)}
theorem RV.net_all (h : RV n rs) (hc : AllCn (eN rs) n) : AllCn (eT rs (netT n rs)) n := fun u v hu hv => (hc u v hu hv).reroute (fun a b ha hb hab => by
  have hkr := (h.kr_law (order rs) [] forest_nil (fun _ hi => h.mem_order.1 hi)).2.2.2
  rcases edge_cases rs a b with ⟨e, _⟩ | ⟨j, hj, _, hh, _⟩
  · unfold eN at hab; omega
  · have hcn := hkr j (h.mem_order.2 hj)
    obtain ⟨e1, e2, _⟩ := h.towns hj
    rw [hit_iff] at hh
    have hs := fun x y => eT_comm rs (netT n rs) x y
    rcases Nat.lt_or_ge a b with hl | hl
    · have f1 : tA rs j = a := by omega
      have f2 : tB rs j = b := by omega
      rw [f1, f2] at hcn
      exact hcn
    · have f1 : tA rs j = b := by omega
      have f2 : tB rs j = a := by omega
      rw [f1, f2] at hcn
      exact hcn.symm hs)
theorem RV.order_len (h : RV n rs) : (order rs).length = rs.length := by rw [h.order_perm.length_eq, List.length_range]
theorem RV.net_len (h : RV n rs) (hc : AllCn (eN rs) n) : (netT n rs).length = n - 1 := h.tree_roads (h.net_forest (fun _ hi => h.mem_order.1 hi)) (h.net_all hc)
end
/-- the first k numbers written, the rest zero -/
def fillTo (m k : Nat) : List Int := (List.range m).map fun (i : Nat) => if i < k then (i : Int) else 0
theorem fillTo_len (m k : Nat) : (fillTo m k).length = m := by simp [fillTo]
theorem fillTo_zero (m : Nat) : fillTo m 0 = List.replicate m 0 := by
  apply List.ext_getElem?
  intro i
  simp only [fillTo, Nat.not_lt_zero, if_false, List.getElem?_map, List.getElem?_replicate]
  by_cases h : i < m
  · simp [h]
  · rw [if_neg h, List.getElem?_eq_none (by simp; omega)]; rfl
theorem fillTo_end (m : Nat) : fillTo m m = (List.range m).map fun (i : Nat) => (i : Int) := by
  unfold fillTo
  apply List.map_congr_left
  intro i hi
  rw [List.mem_range] at hi
  rw [if_pos hi]
theorem fillTo_set (m k : Nat) (h : k < m) : (fillTo m k).set k (k : Int) = fillTo m (k + 1) := by
  apply List.ext_getElem?
  intro i
  by_cases e : k = i
  · subst e
    rw [List.getElem?_set_self (by rw [fillTo_len]; exact h)]
    simp [fillTo, h]
  · rw [List.getElem?_set_ne e]
    simp only [fillTo, List.getElem?_map]
    by_cases h2 : i < m
    · simp only [List.getElem?_range h2, Option.map_some, Option.some.injEq]
      by_cases h3 : i < k
      · rw [if_pos h3, if_pos (by omega)]
      · rw [if_neg h3, if_neg (by omega)]
    · rw [List.getElem?_eq_none (by simp; omega)]
      rfl
/-- rows of cells of different types lie apart -/
theorem own_types {w : World} {b1 b2 t1 t2 s1 s2 n1 n2 : Nat} {v1 v2 : Value} {xs ys : List Value} (h1 : w.ownsRow b1 t1 s1 v1 n1 xs) (h2 : w.ownsRow b2 t2 s2 v2 n2 ys) (hne : t1 ≠ t2) : v1.ownBlock = none ∨ v1.ownBlock ≠ v2.ownBlock := by
  rcases h1.2 with ⟨rfl, _⟩ | ⟨g1, c1, u1, rfl, _, e1, _⟩
  · exact .inl rfl
  · rcases h2.2 with ⟨rfl, _⟩ | ⟨g2, c2, u2, rfl, _, e2, _⟩
    · exact .inr (fun e => by cases e)
    · refine .inr (fun e => ?_)
      have : g1 = g2 := Option.some.inj e
      subst this
      rw [e1] at e2
      simp only [Option.some.injEq, Obj.cells.injEq] at e2
      exact hne e2.2.1
set_option maxRecDepth 100000 in
set_option maxHeartbeats 8000000 in
theorem implRoadsNet_any (n : Int) (A : Option Addr) (rs : List (Int × Int × Int)) (m cap : Nat) (w : World) (hl : rs.length = m) (hm : m ≤ 1048576) (hr : Rd w A (fl3 rs)) :
    Calls Try.prog 13 #[.int .i64 n, .slice A m cap] w (RetSB w 3 1 (roadsNet n rs).length (fl1 (roadsNet n rs)) (whole n rs)) := by
  have Hl := hideIt hl
  clear hl
  have b0 := (Below.refl w.heap.size w).alloc (Nat.le_refl _) (.cells #[.slice A m cap] 23)
  cases hw : whole n rs
  · rw [roadsNet_f hw]
    have Hw := hideIt hw
    clear hw
    go_enter Try.func13, Try.ntmps13
    go_wp2_with fail
    refine (implRoadsWhole_any _ _ _ _ _ _ _ Hl.out hm (hr.alloc _) Hw.out).mono ?_
    rintro e w1 ⟨rfl, hb1⟩
    have b1 := b0.trans (hb1.mono b0.size)
    go_wp2
    go_ret2
    exact ⟨_, _, rfl, own_base (own_empty w1 3 1) b1.size, b1.alloc b1.size _⟩
  obtain ⟨nn, rfl, hrv, hcn⟩ := whole_t hw
  have Hw := hideIt hw
  have Hv := hideIt (roadsValid_of hrv)
  have Hrv : Hid (RV nn rs) := hideIt hrv
  have n8 := hrv.n8
  have n1 := hrv.n1
  have l16 := hrv.l16
  have Hcn : Hid (AllCn (eN rs) nn) := hideIt hcn
  have Hc3 : Hid (∀ i, i < m → 0 ≤ c3 rs i ∧ c3 rs i ≤ 99) := hideIt (fun i hi => by have := hrv.road i (by rw [Hl.out]; exact hi); omega)
  rw [Hl.out] at l16
  rw [roadsNet_t hw, castL_len]
  obtain ⟨i0, hi, hz0, hz1, hz2⟩ := info_parts info_intF
  obtain ⟨j0, hj, hy0, hy1, hy2⟩ := info_parts info_Road
  clear hw hrv hcn
  go_enter Try.func13, Try.ntmps13
  go_wp2_with fail
  refine (implRoadsWhole_any _ _ _ _ _ _ _ Hl.out hm (hr.alloc _) Hw.out).mono ?_
  rintro e w1 ⟨rfl, hb1⟩
  have b1 := b0.trans (hb1.mono b0.size)
  have hp1 := (hb1.cell (p := ⟨w.heap.size, 0, none⟩) (by simp)).trans (by simp : (w.alloc (.cells #[.slice A m cap] 23)).cell? ⟨w.heap.size, 0, none⟩ = some (.slice A m cap))
  have hr1 := hr.below b1 (Nat.le_refl _)
  have hpl : w.heap.size < w1.heap.size := by have := hb1.size; simp at this; omega
  clear hb1 b0
  go_wp2_with (refine wpList_make_full _ rfl _ _ _ rfl w1.heap.size 3 i0 _ 1 Try.underlying26 hi hz0 hz1 .i64 .i64 _ _ m rfl rfl rfl rfl (by rw [hz2]; omega) (by unfold maxLen; omega) (Nat.le_refl _) ?_; intro w2 hown hgrow)
  have hbw1 : Below w1.heap.size w1 w2 := (Below.refl _ _).grown hgrow (Nat.le_refl _) (by simp)
  have hp2 := (hbw1.cell (p := ⟨w.heap.size, 0, none⟩) hpl).trans hp1
  have Hpl := hideIt hpl
  have hown2 : w2.ownsRow w1.heap.size 3 1 (.slice (some ⟨w1.heap.size, 0, none⟩) m m) m (fl1 (fillTo m 0)) := by rw [fillTo_zero, ← made1]; exact hown
  clear hgrow hown
  go_wp2
  go_loopw [22] (fun i wr => ∃ k : Nat, k ≤ m ∧ i = .int .i64 k ∧ wr.ownsRow w1.heap.size 3 1 (.slice (some ⟨w1.heap.size, 0, none⟩) m m) m (fl1 (fillTo m k)) ∧ Below w1.heap.size w1 wr) (fun i _ => m - (intOf i).toNat)
  case atStart => exact ⟨0, by omega, rfl, hown2, hbw1⟩
  case round =>
    obtain ⟨k, hk, rfl, hrow, hbw⟩ := hrel
    clear hown2 hbw1 hp2
    by_cases hlt : k < m
    · have hk2 : k < (fillTo m k).length := by rw [fillTo_len]; exact hlt
      have hca := row1_a hrow hk2
      have hfr := fun j => hrow.frozenAt j
      have hst := row1_store hrow hk2 (k : Int)
      rw [fillTo_set m k hlt] at hst
      have hkm : (k : Int) < (m : Int) := by omega
      clear hrow hk2
      go_wp2
      go_roundw
      case rel => exact ⟨k + 1, by omega, by go_num, hst, hbw.setCell (p := ⟨w1.heap.size, k, none⟩) (Nat.le_refl _) _⟩
      case measure => simp [intOf]; omega
    · obtain rfl : k = m := by omega
      rw [fillTo_end] at hrow
      have hp3 := (hbw.cell (p := ⟨w.heap.size, 0, none⟩) Hpl.out).trans hp1
      go_wp2_with fail
      refine (sortStable_any w1 A _ rs k cap k w.heap.size _ Hl.out (by omega) Hc3.out hr1 hp1 hbw hrow).mono ?_
      rintro e w5 ⟨rfl, ys, hpm, hasc, ho5, hb5⟩
      have Hys := hideIt (show ys = castL (order rs) from Hrv.out.order_is (by rw [Hl.out]; exact hpm) (by rw [Hl.out]; exact hasc))
      rw [Hys.out] at ho5
      have hp5 := (hb5.cell (p := ⟨w.heap.size, 0, none⟩) Hpl.out).trans hp1
      have hr5 := hr1.below hb5 (Nat.le_refl _)
      have b5 := b1.trans (hb5.mono b1.size)
      have hpl5 : w.heap.size < w5.heap.size := Nat.lt_of_lt_of_le Hpl.out hb5.size
      clear hpm hasc hrow hbw hp3 hb5 hr1
      have hN0 := own_empty w5 3 1
      have hT0 := own_base (own_emptyH (w5.alloc (.cells #[] 3)) 32 3 (w5.heap.size + 1) (by simp)) (Nat.le_succ w5.heap.size)
      have bE := ((Below.refl w5.heap.size w5).alloc (Nat.le_refl _) (.cells #[] 3)).alloc (by simp) (.cells #[] 32)
      go_wp2
      go_loopw [8, 9, 37] (fun nt tk i wr => ∃ (j L cN cT : Nat) (N Tk : Option Addr) (T : List Nat), j ≤ k ∧ L ≤ j ∧ i = .int .i64 j ∧ nt = .slice N L cN ∧ tk = .slice Tk L cT ∧ Hid (T = kr nn rs [] ((order rs).take j) ∧ T.length = L) ∧ wr.ownsRow w5.heap.size 3 1 (.slice N L cN) L (fl1 (castL T)) ∧ wr.ownsRow w5.heap.size 32 3 (.slice Tk L cT) L (fl3 (pick3 rs T)) ∧ Below w5.heap.size w5 wr) (fun _ _ i _ => k - (intOf i).toNat)
      case atStart => exact ⟨0, 0, 0, 0, _, _, [], by omega, by omega, rfl, rfl, rfl, hideIt ⟨rfl, rfl⟩, hN0.alloc _, hT0, bE⟩
      case round =>
        obtain ⟨j, L, cN, cT, N, Tk, T, hjk, hLj, rfl, rfl, rfl, HT, hnr, htr, hbw⟩ := hrel
        clear hN0 hT0 bE
        have hsz := hbw.size
        by_cases hlt : j < k
        · obtain ⟨gO, hgO, hgO1, hgO2⟩ := own_some ho5 (by omega)
          cases hgO
          have hOc := row1_a ho5 (k := j) (by rw [castL_len, Hrv.out.order_len, Hl.out]; exact hlt)
          rw [castL_at] at hOc
          have hOc2 := (hbw.cell (p := ⟨w1.heap.size, j, none⟩) hgO2).trans hOc
          have hjo : j < (order rs).length := by rw [Hrv.out.order_len, Hl.out]; exact hlt
          have hmem : (order rs).getD j 0 ∈ order rs := by
            rw [List.getD_eq_getElem?_getD, List.getElem?_eq_getElem hjo, Option.getD_some]
            exact List.getElem_mem hjo
          obtain ⟨v, hv⟩ : ∃ v, (order rs).getD j 0 = v := ⟨_, rfl⟩
          rw [hv] at hmem hOc2
          have hvl := Hrv.out.mem_order.1 hmem
          have hvk : v < k := by rw [← Hl.out]; exact hvl
          have htake := take_snoc' 0 (order rs) j hjo
          rw [hv] at htake
          have hidx : IsIdx rs T := by rw [HT.out.1]; exact (Hrv.out.net_forest (fun _ hi => Hrv.out.mem_order.1 (List.mem_of_mem_take hi))).1
          obtain ⟨hrvT, hstep, hT16, hpl3⟩ := Hrv.out.turn hidx hvl
          have HrvT := hideIt (roadsValid_of hrvT)
          have Hstep := hideIt (show kr nn rs [] ((order rs).take (j + 1)) = (if roadsFar nn (pick3 rs T) (a3 rs v) (b3 rs v) < 0 then T ++ [v] else T) by rw [htake, kr_snoc, ← HT.out.1, hstep])
          have Hpl3 := hideIt (show (pick3 rs T).length = L by rw [hpl3, HT.out.2])
          obtain ⟨bb, off, rfl, hblk, hcc⟩ := hr5.at3 hvl
          obtain ⟨hx, hy, hz⟩ := hcc v hvl
          rw [← hbw.cell (p := ⟨bb, off + v * 3, none⟩) hblk] at hx
          rw [← hbw.cell (p := ⟨bb, off + v * 3 + 1, none⟩) hblk] at hy
          rw [← hbw.cell (p := ⟨bb, off + v * 3 + 2, none⟩) hblk] at hz
          have hpw := (hbw.cell (p := ⟨w.heap.size, 0, none⟩) hpl5).trans hp5
          obtain ⟨g1, g2, g3, g4, g5⟩ := Hrv.out.road v hvl
          have Hrd := hideIt (get3 rs v)
          obtain ⟨x, hxe⟩ : ∃ q, a3 rs v = q := ⟨_, rfl⟩
          obtain ⟨y, hye⟩ : ∃ q, b3 rs v = q := ⟨_, rfl⟩
          obtain ⟨z, hze⟩ : ∃ q, c3 rs v = q := ⟨_, rfl⟩
          rw [hxe] at hx g1 g2 Hstep Hrd
          rw [hye] at hy g2 g3 Hstep Hrd
          rw [hze] at hz Hrd
          have okx : IntOk x := by unfold IntOk; omega
          have oky : IntOk y := by unfold IntOk; omega
          obtain ⟨F, hF⟩ : ∃ F, roadsFar nn (pick3 rs T) x y = F := ⟨_, rfl⟩
          rw [hF] at Hstep
          have HF := hideIt hF
          have hvki : (v : Int) < (k : Int) := by omega
          have hjki : (j : Int) < (k : Int) := by omega
          have hL16 : L ≤ 16 := by rw [← HT.out.2]; exact hT16
          have HK := hideIt (fun (w' : World) (h : Below wr.heap.size wr w') => show w'.cell? ⟨w.heap.size, 0, none⟩ = some (.slice (some ⟨bb, off, none⟩) k cap) ∧ w'.cell? ⟨bb, off + v * 3, none⟩ = some (.int .i64 x) ∧ w'.cell? ⟨bb, off + v * 3 + 1, none⟩ = some (.int .i64 y) ∧ w'.cell? ⟨bb, off + v * 3 + 2, none⟩ = some (.int .i64 z) ∧ Below wr.heap.size wr w' from
            ⟨(h.cell (p := ⟨w.heap.size, 0, none⟩) (World.block_lt_of_cell? wr _ hpw)).trans hpw, (h.cell (p := ⟨bb, off + v * 3, none⟩) (World.block_lt_of_cell? wr _ hx)).trans hx, (h.cell (p := ⟨bb, off + v * 3 + 1, none⟩) (World.block_lt_of_cell? wr _ hy)).trans hy, (h.cell (p := ⟨bb, off + v * 3 + 2, none⟩) (World.block_lt_of_cell? wr _ hz)).trans hz, h⟩)
          clear hcc hxe hye hze hv htake hstep hpl3 hT16 hrvT hidx hmem hvl hF hOc hjo g4 g5
          go_wp2
          go_region_held3 (fun w' => w'.cell? ⟨w.heap.size, 0, none⟩ = some (.slice (some ⟨bb, off, none⟩) k cap) ∧ w'.cell? ⟨bb, off + v * 3, none⟩ = some (.int .i64 x) ∧ w'.cell? ⟨bb, off + v * 3 + 1, none⟩ = some (.int .i64 y) ∧ w'.cell? ⟨bb, off + v * 3 + 2, none⟩ = some (.int .i64 z) ∧ Below wr.heap.size wr w')
            (first
              | exact HK.out _ (Below.refl _ _).drew
              | exact HK.out _ B1)
            (first
              | (go_split_ands
                 go_at_call 15
                 refine (implRoadsFar_any _ _ _ _ _ _ _ _ Hpl3.out (by omega) ((Rd.of_own htr).below (by assumption) (Nat.le_refl _)) okx oky).mono ?_
                 rw [HF.out]
                 rintro e w6 ⟨rfl, hb6⟩
                 have B1 := below_from (by assumption) hb6))
          all_goals
            have bP := hbw.trans (B1.mono hsz)
            have hnP := own_below hnr B1 (Nat.le_refl _)
            have htP := own_below htr B1 (Nat.le_refl _)
            obtain ⟨hc0, hc1, hc2, hc3, _⟩ := HK.out _ B1
            have hszP := bP.size
            clear hbw hnr htr hx hy hz hpw hb6 HK
            by_cases hF0 : F < 0
            · have hT2 := hideIt (show T ++ [v] = kr nn rs [] ((order rs).take (j + 1)) ∧ (T ++ [v]).length = L + 1 from ⟨by rw [Hstep.out, if_pos hF0], by rw [List.length_append, HT.out.2]; rfl⟩)
              clear Hstep
              have Hf1 := hideIt (show fl1 (castL (T ++ [v])) = fl1 (castL T) ++ [.int .i64 (v : Int)] by rw [castL_snoc, fl1_snoc])
              have Hf3 := hideIt (show fl3 (pick3 rs (T ++ [v])) = fl3 (pick3 rs T) ++ [.int .i64 x, .int .i64 y, .int .i64 z] by rw [pick3_snoc, Hrd.out, fl3, List.flatMap_append]; rfl)
              have hn6 := hnP.alloc (.cells #[.int .i64 x, .int .i64 y, .int .i64 z] 32)
              have ht6 := htP.alloc (.cells #[.int .i64 x, .int .i64 y, .int .i64 z] 32)
              have hap6 := own_types hn6 ht6 (by decide)
              have bP6 := bP.alloc hszP (.cells #[.int .i64 x, .int .i64 y, .int .i64 z] 32)
              have hsz6 : w5.heap.size ≤ (w6.alloc (.cells #[.int .i64 x, .int .i64 y, .int .i64 z] 32)).heap.size := bP6.size
              clear hnP htP bP
              go_wp2_with (first | (at_builtin; refine wpList_append_own _ rfl (.tmp 55) (.tmp 60) 23 rfl w5.heap.size 32 j0 _ 3 24 Try.underlying23 hj hy0 hy1 hy2 rfl (by decide) _ _ _ rfl ht6 ⟨w6.heap.size, 0, none⟩ 1 1 [.int .i64 x, .int .i64 y, .int .i64 z] rfl rfl (news_at (cs := #[.int .i64 x, .int .i64 y, .int .i64 z]) (t := 32) (heap_alloc_new w6 _)) (by simp [Value.oneCell']) (by unfold maxLen; omega) (by omega) hsz6 ?_; intro v7 w7 ht7 hg7 hnn; clear hnn; have hn7 := hn6.kept hg7 hap6; have b7 := bP6.grown hg7 hsz6 (fun q hq => (ht6.lt q hq).1); have hsz7 := b7.size; obtain ⟨A7, c7, rfl⟩ := own_form ht7) | (at_builtin; refine wpList_append_own _ rfl (.tmp 62) (.tmp 64) 26 rfl w5.heap.size 3 i0 _ 1 8 Try.underlying26 hi hz0 hz1 hz2 rfl (by decide) _ _ _ rfl (hn7.alloc _) ⟨_, 0, none⟩ 1 1 [.int .i64 (v : Int)] rfl rfl (cell_one_new _ _ _) (by simp [Value.oneCell']) (by unfold maxLen; omega) (by omega) (by simp; omega) ?_; intro v8 w8 hn8 hg8 hnn; clear hnn))
              obtain ⟨A8, c8, rfl⟩ := own_form hn8
              have ht8 := (ht7.alloc (.cells #[.int .i64 (v : Int)] 3)).kept hg8 (own_types (ht7.alloc (.cells #[.int .i64 (v : Int)] 3)) (hn7.alloc (.cells #[.int .i64 (v : Int)] 3)) (by decide))
              have b8 := (b7.alloc hsz7 (.cells #[.int .i64 (v : Int)] 3)).grown hg8 (Nat.le_trans hsz7 (by simp)) (fun q hq => (hn7.lt q hq).1)
              clear hg8 hg7 hn7 ht7 b7 hn6 ht6 bP6 hap6
              go_wp2
              go_roundw
              case rel => exact ⟨j + 1, L + 1, c8, c7, A8, A7, T ++ [v], by omega, by omega, by go_num, rfl, rfl, hT2, by rw [Hf1.out]; exact hn8, by rw [Hf3.out]; exact ht8, b8⟩
              case measure => simp [intOf]; omega
            · have hT2 := hideIt (show T = kr nn rs [] ((order rs).take (j + 1)) ∧ T.length = L from ⟨by rw [Hstep.out, if_neg hF0], HT.out.2⟩)
              clear Hstep
              go_wp2
              go_roundw
              case rel => exact ⟨j + 1, L, cN, cT, N, Tk, T, by omega, by omega, by go_num, rfl, rfl, hT2, hnP, htP, bP⟩
              case measure => simp [intOf]; omega
        · obtain rfl : j = k := by omega
          have hTn := hideIt (show T = netT nn rs by unfold netT; rw [HT.out.1, List.take_of_length_le (by rw [Hrv.out.order_len, Hl.out]; exact Nat.le_refl _)])
          have hL7 : L ≤ 7 := by
            have h1 := Hrv.out.net_len Hcn.out
            rw [← hTn.out, HT.out.2] at h1
            omega
          have HcL := hideIt (show (castL T).length = L by rw [castL_len, HT.out.2])
          have HLn := hideIt (show L = (netL nn rs).length by
            have := Hrv.out.netT_perm.length_eq
            rw [← hTn.out, HcL.out, castL_len] at this
            exact this)
          go_wp2_with fail
          refine (sort_any _ _ _ _ _ _ HcL.out (by omega) hnr).mono ?_
          rintro e w6 ⟨rfl, ys2, hp, hasc, ho6, hg6⟩
          have Hys2 := hideIt (show ys2 = castL (netL nn rs) from asc_eq (hp.trans (by rw [hTn.out]; exact Hrv.out.netT_perm)) (by rw [hp.length_eq, HcL.out]; exact hasc) (castL_asc (netL_asc nn rs)))
          have b6 := hbw.grown hg6 hsz (fun g hg => (hnr.lt g hg).1)
          rw [Hys2.out] at ho6
          clear hp hasc hg6 hnr htr hbw
          go_wp2
          go_ret2
          rw [← HLn.out]
          exact ⟨_, _, rfl, own_base ho6 b5.size, b5.trans (b6.mono b5.size)⟩
end Go.Proofs.Ytdnjeahbnidefaa

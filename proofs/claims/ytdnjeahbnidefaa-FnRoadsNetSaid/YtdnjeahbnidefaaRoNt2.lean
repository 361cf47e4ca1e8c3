/- Walks: RoadsNet of the reference. -/
import Derived.Test.YtdnjeahbnidefaaRoNt
import Derived.Test.YtdnjeahbnidefaaRoWy2
namespace Go.Proofs.Ytdnjeahbnidefaa
open Go.RowKit

def encK (b : Bool) : List Value := [.bool b]
theorem encK_len (b : Bool) : (encK b).length = 1 := rfl
def flK (xs : List Bool) : List Value := xs.flatMap encK
theorem flK_len (xs : List Bool) : (flK xs).length = xs.length := by rw [flK, flat_length encK 1 encK_len xs, Nat.mul_one]
theorem flK_a (xs : List Bool) (k : Nat) (hk : k < xs.length) : (flK xs)[k]? = some (.bool (xs.getD k false)) := by
  have := flat_get encK 1 encK_len xs k 0 _ (getD_some xs k false hk) (by omega); rw [Nat.mul_one, Nat.add_zero] at this; exact this
theorem rowK_a {w : World} {base t g cap n : Nat} {xs : List Bool} (h : w.ownsRow base t 1 (.slice (some ⟨g, 0, none⟩) n cap) n (flK xs)) {k : Nat} (hk : k < xs.length) :
    w.cell? ⟨g, k, none⟩ = some (.bool (xs.getD k false)) := by
  have hl := h.1
  rw [flK_len] at hl
  exact (h.cellAt k (by omega)).trans (flK_a xs k hk)
theorem rowK_store {w : World} {base t g cap n : Nat} {xs : List Bool} (h : w.ownsRow base t 1 (.slice (some ⟨g, 0, none⟩) n cap) n (flK xs)) {k : Nat} (hk : k < xs.length) (v : Bool) :
    (w.setCell ⟨g, k, none⟩ (.bool v)).ownsRow base t 1 (.slice (some ⟨g, 0, none⟩) n cap) n (flK (xs.set k v)) := by
  have h1 := (h.stored k (.bool v)).1
  have := flat_set encK 1 encK_len xs k 0 _ v (.bool v) (getD_some xs k false hk) (by omega) rfl
  rw [Nat.mul_one, Nat.add_zero] at this
  have e : (flK xs).set k (.bool v) = flK (xs.set k v) := this
  rw [e] at h1
  exact h1
theorem madeK (n : Nat) : (madeCells #[.bool false] (n * 1)).toList = flK (List.replicate n false) := by
  rw [Nat.mul_one, toList_madeCells_one, flK]
  induction n with
  | zero => rfl
  | succ n ih => rw [List.replicate_succ, List.replicate_succ, List.flatMap_cons, ← ih]; rfl
/-- who is taken, by index -/
def marks (m : Nat) (T : List Nat) : List Bool := (List.range m).map fun i => decide (i ∈ T)
theorem marks_len (m : Nat) (T : List Nat) : (marks m T).length = m := by simp [marks]
theorem marks_at {m k : Nat} (T : List Nat) (h : k < m) : (marks m T).getD k false = decide (k ∈ T) := by
  rw [List.getD_eq_getElem?_getD, List.getElem?_eq_getElem (by rw [marks_len]; exact h)]
  simp [marks]
theorem marks_nil (m : Nat) : List.replicate m false = marks m [] := by
  apply List.ext_getElem?
  intro i
  by_cases h : i < m
  · rw [List.getElem?_eq_getElem (by simpa using h), List.getElem?_eq_getElem (by rw [marks_len]; exact h)]
    simp [marks]
  · rw [List.getElem?_eq_none (by simpa using h), List.getElem?_eq_none (by rw [marks_len]; omega)]
theorem marks_set {m k : Nat} (T : List Nat) (h : k < m) : (marks m T).set k true = marks m (T ++ [k]) := by
  apply List.ext_getElem?
  intro i
  by_cases e : k = i
  · subst e
    rw [List.getElem?_set_self (by rw [marks_len]; exact h), List.getElem?_eq_getElem (by rw [marks_len]; exact h)]
    simp [marks]
  · rw [List.getElem?_set_ne e]
    by_cases h2 : i < m
    · rw [List.getElem?_eq_getElem (by rw [marks_len]; exact h2), List.getElem?_eq_getElem (by rw [marks_len]; exact h2)]
      have e2 : ¬ i = k := fun e' => e e'.symm
      simp [marks, e2]
    · rw [List.getElem?_eq_none (by rw [marks_len]; omega), List.getElem?_eq_none (by rw [marks_len]; omega)]
/-- the marked indexes below k -/
def markL (T : List Nat) (k : Nat) : List Nat := (List.range k).filter fun i => decide (i ∈ T)
theorem markL_yes {T : List Nat} {k : Nat} (h : decide (k ∈ T) = true) : markL T (k + 1) = markL T k ++ [k] := by
  rw [markL, List.range_succ, List.filter_append, ← markL]
  simp only [List.filter_cons, h, if_true, List.filter_nil]
theorem markL_no {T : List Nat} {k : Nat} (h : decide (k ∈ T) = false) : markL T (k + 1) = markL T k := by
  rw [markL, List.range_succ, List.filter_append, ← markL]
  simp only [List.filter_cons, h, List.filter_nil]
  simp
theorem byM_yes {rs : List (Int × Int × Int)} {m k : Nat} (h : c3 rs k = m) : byM rs m (k + 1) = byM rs m k ++ [k] := by
  rw [byM, List.range_succ, List.filter_append, ← byM]
  simp only [List.filter_cons, List.filter_nil, decide_eq_true h, if_true]
theorem byM_no {rs : List (Int × Int × Int)} {m k : Nat} (h : ¬ c3 rs k = m) : byM rs m (k + 1) = byM rs m k := by
  rw [byM, List.range_succ, List.filter_append, ← byM]
  simp only [List.filter_cons, List.filter_nil, decide_eq_false h]
  simp
theorem ordTo_pred {rs : List (Int × Int × Int)} {M : Nat} (h : 1 ≤ M) : ordTo rs M = ordTo rs (M - 1) ++ byM rs M rs.length := by
  obtain ⟨q, rfl⟩ : ∃ q, M = q + 1 := ⟨M - 1, by omega⟩
  rfl
/-- what is taken before the i-th road's turn in the round of M miles -/
def turnT (n : Nat) (rs : List (Int × Int × Int)) (M i : Nat) : List Nat := kr n rs [] (ordTo rs (M - 1) ++ byM rs M i)
section
variable {n : Nat} {rs : List (Int × Int × Int)}
theorem turnT_zero (M : Nat) : turnT n rs M 0 = kr n rs [] (ordTo rs (M - 1)) := by
  rw [turnT, show byM rs M 0 = [] from rfl, List.append_nil]
theorem turnT_last {M : Nat} (h : 1 ≤ M) : turnT n rs M rs.length = turnT n rs (M + 1) 0 := by
  rw [turnT_zero, turnT, ← ordTo_pred h]
  rfl
theorem turnT_no {M k : Nat} (h : ¬ c3 rs k = M) : turnT n rs M (k + 1) = turnT n rs M k := by rw [turnT, byM_no h]; rfl
theorem turnT_yes {M k : Nat} (h : c3 rs k = M) : turnT n rs M (k + 1) = kstep n rs (turnT n rs M k) k := by
  rw [turnT, byM_yes h, ← List.append_assoc, kr_snoc]
  rfl
theorem RV.turnT_idx (h : RV n rs) {M k : Nat} (hk : k ≤ rs.length) : IsIdx rs (turnT n rs M k) := (h.net_forest (fun i hi => by
  rcases List.mem_append.1 hi with g | g
  · exact ((mem_ordTo (M - 1)).1 g).1
  · have := (mem_byM.1 g).1
    omega)).1
theorem turnT_net : turnT n rs 100 0 = netT n rs := turnT_zero 100
end
theorem info_boolN : (Try.prog.info? 4).map (fun i => (i.zero, i.size, i.bytes)) = some (some (.bool false), 1, 1) := by kernel_rfl
set_option maxRecDepth 100000 in
set_option maxHeartbeats 8000000 in
theorem specRoadsNet_any (n : Int) (A : Option Addr) (rs : List (Int × Int × Int)) (m cap : Nat) (w : World) (hl : rs.length = m) (hm : m ≤ 1048576) (hr : Rd w A (fl3 rs)) :
    Calls Try.prog 19 #[.int .i64 n, .slice A m cap] w (RetSB w 3 1 (roadsNet n rs).length (fl1 (roadsNet n rs)) (whole n rs)) := by
  have Hl := hideIt hl
  clear hl
  cases hw : whole n rs
  · rw [roadsNet_f hw]
    have Hw := hideIt hw
    clear hw
    go_enter Try.func19, Try.ntmps19
    go_wp2_with fail
    refine (specRoadsWhole_any _ _ _ _ _ _ _ Hl.out hm hr Hw.out).mono ?_
    rintro e w1 ⟨rfl, b1⟩
    go_wp2
    go_ret2
    exact ⟨_, _, rfl, own_base (own_empty w1 3 1) b1.size, b1.alloc b1.size _⟩
  obtain ⟨nn, rfl, hrv, hcn⟩ := whole_t hw
  have Hw := hideIt hw
  have Hrv : Hid (RV nn rs) := hideIt hrv
  have n8 := hrv.n8
  have n1 := hrv.n1
  have l16 := hrv.l16
  have Hcn : Hid (AllCn (eN rs) nn) := hideIt hcn
  rw [Hl.out] at l16
  rw [roadsNet_t hw, castL_len]
  obtain ⟨i0, hi, hz0, hz1, hz2⟩ := info_parts info_intF
  obtain ⟨j0, hj, hy0, hy1, hy2⟩ := info_parts info_Road
  obtain ⟨k0, hk, hx0, hx1, hx2⟩ := info_parts info_boolN
  clear hw hrv hcn
  go_enter Try.func19, Try.ntmps19
  go_wp2_with fail
  refine (specRoadsWhole_any _ _ _ _ _ _ _ Hl.out hm hr Hw.out).mono ?_
  rintro e w1 ⟨rfl, b1⟩
  have hr1 := hr.below b1 (Nat.le_refl _)
  have ht0 := own_empty w1 32 3
  have bt0 := (Below.refl w1.heap.size w1).alloc (Nat.le_refl _) (.cells #[] 32)
  go_wp2_with (refine wpList_make_full _ rfl _ _ _ rfl w1.heap.size 4 k0 _ 1 Try.underlying64 hk hx0 hx1 .i64 .i64 _ _ m rfl rfl rfl rfl (by rw [hx2]; omega) (by unfold maxLen; omega) (by simp) ?_; intro w2 hown hgrow)
  have hb2 : Below (w1.alloc (.cells #[] 32)).heap.size (w1.alloc (.cells #[] 32)) w2 := (Below.refl _ _).grown hgrow (Nat.le_refl _) (by simp)
  have ht2 := own_below ht0 hb2 (Nat.le_refl _)
  have bw2 := bt0.trans (hb2.mono bt0.size)
  have hown2 : w2.ownsRow w1.heap.size 4 1 (.slice (some ⟨(w1.alloc (.cells #[] 32)).heap.size, 0, none⟩) m m) m (flK (marks m [])) := by rw [← marks_nil, ← madeK]; exact hown
  clear hgrow hown hb2 ht0 bt0
  rw [show (w1.alloc (.cells #[] 32)).heap.size = w1.heap.size + 1 by simp] at hown2
  go_wp2
  generalize w1.heap.size + 1 = gM at hown2 ⊢
  go_loopw [6, 8] (fun tk i wr => ∃ (M L cT : Nat) (Tk : Option Addr) (T : List Nat), 1 ≤ M ∧ M ≤ 100 ∧ i = .int .i64 M ∧ tk = .slice Tk L cT ∧ Hid (T = turnT nn rs M 0 ∧ T.length = L) ∧ wr.ownsRow w1.heap.size 32 3 (.slice Tk L cT) L (fl3 (pick3 rs T)) ∧ wr.ownsRow w1.heap.size 4 1 (.slice (some ⟨gM, 0, none⟩) m m) m (flK (marks m T)) ∧ Below w1.heap.size w1 wr) (fun _ i _ => 100 - (intOf i).toNat)
  case atStart => exact ⟨1, 0, 0, _, [], by omega, by omega, rfl, rfl, hideIt ⟨rfl, rfl⟩, ht2, hown2, bw2⟩
  case round =>
    obtain ⟨M, L, cT, Tk, T, hM1, hM, rfl, rfl, HT, htr, hmr, hbw⟩ := hrel
    clear hown2 ht2 bw2
    have hsz := hbw.size
    by_cases hlt : M ≤ 99
    · have hM9 : (M : Int) ≤ 99 := by omega
      go_wp2
      go_loopw [6, 9] (fun tk i wv => ∃ (k L cT : Nat) (Tk : Option Addr) (T : List Nat), k ≤ m ∧ i = .int .i64 k ∧ tk = .slice Tk L cT ∧ Hid (T = turnT nn rs M k ∧ T.length = L) ∧ wv.ownsRow w1.heap.size 32 3 (.slice Tk L cT) L (fl3 (pick3 rs T)) ∧ wv.ownsRow w1.heap.size 4 1 (.slice (some ⟨gM, 0, none⟩) m m) m (flK (marks m T)) ∧ Below w1.heap.size w1 wv) (fun _ i _ => m - (intOf i).toNat)
      case atStart => exact ⟨0, L, cT, Tk, T, by omega, rfl, rfl, HT, htr, hmr, hbw⟩
      case round =>
        clear htr hmr hbw hsz HT
        obtain ⟨k, L, cT, Tk, T, hkm, rfl, rfl, HT, htr, hmr, hbw⟩ := hrel
        have hsz := hbw.size
        by_cases hlt2 : k < m
        · have hkl : k < rs.length := by rw [Hl.out]; exact hlt2
          have hidx : IsIdx rs T := by rw [HT.out.1]; exact Hrv.out.turnT_idx (by omega)
          obtain ⟨hrvT, hstep, hT16, hpl3⟩ := Hrv.out.turn hidx hkl
          have HrvT := hideIt (roadsValid_of hrvT)
          have Hpl3 := hideIt (show (pick3 rs T).length = L by rw [hpl3, HT.out.2])
          obtain ⟨bb, off, rfl, hblk, hcc⟩ := hr1.at3 hkl
          obtain ⟨hx, hy, hz⟩ := hcc k hkl
          rw [← hbw.cell (p := ⟨bb, off + k * 3, none⟩) hblk] at hx
          rw [← hbw.cell (p := ⟨bb, off + k * 3 + 1, none⟩) hblk] at hy
          rw [← hbw.cell (p := ⟨bb, off + k * 3 + 2, none⟩) hblk] at hz
          obtain ⟨g1, g2, g3, g4, g5⟩ := Hrv.out.road k hkl
          have Hrd := hideIt (get3 rs k)
          have hL16 : L ≤ 16 := by rw [← HT.out.2]; exact hT16
          have hkmi : (k : Int) < (m : Int) := by omega
          by_cases hMk : c3 rs k = M
          · have Hstep := hideIt (show turnT nn rs M (k + 1) = (if roadsFar nn (pick3 rs T) (a3 rs k) (b3 rs k) < 0 then T ++ [k] else T) by rw [turnT_yes hMk, ← HT.out.1, hstep])
            obtain ⟨x, hxe⟩ : ∃ q, a3 rs k = q := ⟨_, rfl⟩
            obtain ⟨y, hye⟩ : ∃ q, b3 rs k = q := ⟨_, rfl⟩
            rw [hxe] at hx g1 g2 Hstep Hrd
            rw [hye] at hy g2 g3 Hstep Hrd
            rw [hMk] at hz Hrd
            have okx : IntOk x := by unfold IntOk; omega
            have oky : IntOk y := by unfold IntOk; omega
            obtain ⟨F, hF⟩ : ∃ F, roadsFar nn (pick3 rs T) x y = F := ⟨_, rfl⟩
            rw [hF] at Hstep
            have HF := hideIt hF
            have HK := hideIt (fun (w' : World) (h : Below wr.heap.size wr w') => show w'.cell? ⟨bb, off + k * 3, none⟩ = some (.int .i64 x) ∧ w'.cell? ⟨bb, off + k * 3 + 1, none⟩ = some (.int .i64 y) ∧ w'.cell? ⟨bb, off + k * 3 + 2, none⟩ = some (.int .i64 (M : Int)) ∧ Below wr.heap.size wr w' from
              ⟨(h.cell (p := ⟨bb, off + k * 3, none⟩) (World.block_lt_of_cell? wr _ hx)).trans hx, (h.cell (p := ⟨bb, off + k * 3 + 1, none⟩) (World.block_lt_of_cell? wr _ hy)).trans hy, (h.cell (p := ⟨bb, off + k * 3 + 2, none⟩) (World.block_lt_of_cell? wr _ hz)).trans hz, h⟩)
            clear hcc hxe hye hstep hpl3 hT16 hrvT hidx hkl hF g4 g5 hMk
            go_wp2
            go_region_held3 (fun w' => w'.cell? ⟨bb, off + k * 3, none⟩ = some (.int .i64 x) ∧ w'.cell? ⟨bb, off + k * 3 + 1, none⟩ = some (.int .i64 y) ∧ w'.cell? ⟨bb, off + k * 3 + 2, none⟩ = some (.int .i64 (M : Int)) ∧ Below wr.heap.size wr w')
              (first
                | exact HK.out _ (Below.refl _ _).drew
                | exact HK.out _ B1)
              (first
                | (go_split_ands
                   go_at_call 38
                   refine (specRoadsFar_any _ _ _ _ _ _ _ _ Hpl3.out (by omega) ((Rd.of_own htr).below (by assumption) (Nat.le_refl _)) okx oky).mono ?_
                   rw [HF.out]
                   rintro e w6 ⟨rfl, hb6⟩
                   have B1 := below_from (by assumption) hb6))
            all_goals
              have bP := hbw.trans (B1.mono hsz)
              have hmP := own_below hmr B1 (Nat.le_refl _)
              have htP := own_below htr B1 (Nat.le_refl _)
              obtain ⟨hc0, hc1, hc2, _⟩ := HK.out _ B1
              have hszP := bP.size
              clear hbw hmr htr hx hy hz hb6 HK
              by_cases hF0 : F < 0
              · have hT2 := hideIt (show T ++ [k] = turnT nn rs M (k + 1) ∧ (T ++ [k]).length = L + 1 from ⟨by rw [Hstep.out, if_pos hF0], by rw [List.length_append, HT.out.2]; rfl⟩)
                clear Hstep
                have Hf3 := hideIt (show fl3 (pick3 rs (T ++ [k])) = fl3 (pick3 rs T) ++ [.int .i64 x, .int .i64 y, .int .i64 (M : Int)] by rw [pick3_snoc, Hrd.out, fl3, List.flatMap_append]; rfl)
                have hm6 := hmP.alloc (.cells #[.int .i64 x, .int .i64 y, .int .i64 (M : Int)] 32)
                have ht6 := htP.alloc (.cells #[.int .i64 x, .int .i64 y, .int .i64 (M : Int)] 32)
                have hap6 := own_types hm6 ht6 (by decide)
                have bP6 := bP.alloc hszP (.cells #[.int .i64 x, .int .i64 y, .int .i64 (M : Int)] 32)
                have hsz6 : w1.heap.size ≤ (w6.alloc (.cells #[.int .i64 x, .int .i64 y, .int .i64 (M : Int)] 32)).heap.size := bP6.size
                have hk2 : k < (marks m T).length := by rw [marks_len]; exact hlt2
                clear hmP htP bP
                go_wp2_with (at_builtin; refine wpList_append_own _ rfl (.tmp 54) (.tmp 59) 23 rfl w1.heap.size 32 j0 _ 3 24 Try.underlying23 hj hy0 hy1 hy2 rfl (by decide) _ _ _ rfl ht6 ⟨w6.heap.size, 0, none⟩ 1 1 [.int .i64 x, .int .i64 y, .int .i64 (M : Int)] rfl rfl (news_at (cs := #[.int .i64 x, .int .i64 y, .int .i64 (M : Int)]) (t := 32) (heap_alloc_new w6 _)) (by simp [Value.oneCell']) (by unfold maxLen; omega) (by omega) hsz6 ?_; intro v7 w7 ht7 hg7 hnn; clear hnn; have hm7 := hm6.kept hg7 hap6; have b7 := bP6.grown hg7 hsz6 (fun q hq => (ht6.lt q hq).1); have hsz7 := b7.size; have hca := rowK_a hm7 hk2; have hfr := fun j => hm7.frozenAt j; obtain ⟨A7, c7, rfl⟩ := own_form ht7)
                have hm8 := rowK_store hm7 hk2 true
                rw [marks_set T hlt2] at hm8
                have ht8 := ht7.kept (hm7.stored k (.bool true)).2 (own_types ht7 hm7 (by decide))
                obtain ⟨gM', hgM', hgM1, _⟩ := own_some hm7 (by omega)
                cases hgM'
                go_roundw
                case rel => exact ⟨k + 1, L + 1, c7, A7, T ++ [k], by omega, by go_num, rfl, hT2, by rw [Hf3.out]; exact ht8, hm8, b7.setCell (p := ⟨gM, k, none⟩) hgM1 _⟩
                case measure => simp [intOf]; omega
              · have hT2 := hideIt (show T = turnT nn rs M (k + 1) ∧ T.length = L from ⟨by rw [Hstep.out, if_neg hF0], HT.out.2⟩)
                clear Hstep
                go_wp2
                go_roundw
                case rel => exact ⟨k + 1, L, cT, Tk, T, by omega, by go_num, rfl, hT2, htP, hmP, bP⟩
                case measure => simp [intOf]; omega
          · have hT2 := hideIt (show T = turnT nn rs M (k + 1) ∧ T.length = L from ⟨by rw [turnT_no hMk]; exact HT.out.1, HT.out.2⟩)
            obtain ⟨z, hze⟩ : ∃ q, c3 rs k = q := ⟨_, rfl⟩
            rw [hze] at hz hMk
            have hzf : (z == (M : Int)) = false := by simpa using hMk
            clear hcc hstep hpl3 hT16 hrvT hidx hkl g4 g5 hze Hrd hx hy g1 g2 g3
            go_wp2
            go_quiet (fail)
            go_wp2
            go_roundw
            case rel => exact ⟨k + 1, L, cT, Tk, T, by omega, by go_num, rfl, hT2, htr, hmr, below_dN hbw _⟩
            case measure => simp [intOf]; omega
        · obtain rfl : k = m := by omega
          have hT2 := hideIt (show T = turnT nn rs (M + 1) 0 ∧ T.length = L from ⟨by rw [← turnT_last hM1, Hl.out]; exact HT.out.1, HT.out.2⟩)
          go_wp2
          go_roundw
          case rel => exact ⟨M + 1, L, cT, Tk, T, by omega, by omega, by go_num, rfl, hT2, htr, hmr, hbw⟩
          case measure => simp [intOf]; omega
    · obtain ⟨Ti, hTi⟩ : ∃ q, netT nn rs = q := ⟨_, rfl⟩
      have hTn : T = Ti := by
        have h100 : M = 100 := by omega
        rw [HT.out.1, h100, turnT_net, hTi]
      have HnL := hideIt (show markL Ti m = netL nn rs by rw [← hTi, netL, Hl.out]; rfl)
      subst hTn
      clear HT htr hTi
      have h0 := own_base (own_empty wr 3 1) hsz
      have hm0 := hmr.alloc (.cells #[] 3)
      have hb0 := hbw.alloc hsz (.cells #[] 3)
      go_wp2
      go_loopw [10, 11] (fun o i wv => ∃ (k L c : Nat) (O : Option Addr), k ≤ m ∧ L ≤ k ∧ i = .int .i64 k ∧ o = .slice O L c ∧ Hid ((markL T k).length = L) ∧ wv.ownsRow w1.heap.size 3 1 (.slice O L c) L (fl1 (castL (markL T k))) ∧ wv.ownsRow w1.heap.size 4 1 (.slice (some ⟨gM, 0, none⟩) m m) m (flK (marks m T)) ∧ Below w1.heap.size w1 wv) (fun _ i _ => m - (intOf i).toNat)
      case atStart => exact ⟨0, 0, 0, _, by omega, by omega, rfl, rfl, hideIt rfl, h0, hm0, hb0⟩
      case round =>
        clear h0 hm0 hb0 hmr hbw hsz
        obtain ⟨k, L, c, O, hkm, hLk, rfl, rfl, HL, ho, hmr, hbw⟩ := hrel
        have hsz := hbw.size
        by_cases hlt2 : k < m
        · have hkmi : (k : Int) < (m : Int) := by omega
          have hca := rowK_a hmr (k := k) (by rw [marks_len]; exact hlt2)
          rw [marks_at T hlt2] at hca
          cases hd : decide (k ∈ T)
          · rw [hd] at hca
            have Hn := hideIt (markL_no hd)
            go_wp2
            go_roundw
            case rel => exact ⟨k + 1, L, c, O, by omega, by omega, by go_num, rfl, by rw [Hn.out]; exact HL, by rw [Hn.out]; exact ho, hmr, hbw⟩
            case measure => simp [intOf]; omega
          · rw [hd] at hca
            have Hn := hideIt (markL_yes hd)
            have Hfl := hideIt (show fl1 (castL (markL T (k + 1))) = fl1 (castL (markL T k)) ++ [.int .i64 (k : Int)] by rw [Hn.out, castL_snoc, fl1_snoc])
            have hm6 := hmr.alloc (.cells #[.int .i64 (k : Int)] 3)
            have ho6 := ho.alloc (.cells #[.int .i64 (k : Int)] 3)
            have hap6 := own_types hm6 ho6 (by decide)
            have bP6 := hbw.alloc hsz (.cells #[.int .i64 (k : Int)] 3)
            go_wp2_with (at_builtin; refine wpList_append_own _ rfl (.tmp 75) (.tmp 77) 26 rfl w1.heap.size 3 i0 _ 1 8 Try.underlying26 hi hz0 hz1 hz2 rfl (by decide) _ _ _ rfl ho6 ⟨_, 0, none⟩ 1 1 [.int .i64 (k : Int)] rfl rfl (cell_one_new _ _ _) (by simp [Value.oneCell']) (by unfold maxLen; omega) (by omega) bP6.size ?_; intro v7 w7 ho7 hg7 hnn; clear hnn; have hm7 := hm6.kept hg7 hap6; have b7 := bP6.grown hg7 bP6.size (fun q hq => (ho6.lt q hq).1); obtain ⟨A7, c7, rfl⟩ := own_form ho7)
            clear hg7 hap6 hm6 ho6 bP6
            go_roundw
            case rel => exact ⟨k + 1, L + 1, c7, A7, by omega, by omega, by go_num, rfl, hideIt (by rw [Hn.out, List.length_append, HL.out]; rfl), by rw [Hfl.out]; exact ho7, hm7, b7⟩
            case measure => simp [intOf]; omega
        · obtain rfl : k = m := by omega
          have HLn := hideIt (show L = (netL nn rs).length by rw [← HL.out, HnL.out])
          rw [HnL.out] at ho
          go_wp2
          go_ret2
          rw [← HLn.out]
          exact ⟨_, _, rfl, own_base ho b1.size, b1.trans (hbw.mono b1.size)⟩
end Go.Proofs.Ytdnjeahbnidefaa

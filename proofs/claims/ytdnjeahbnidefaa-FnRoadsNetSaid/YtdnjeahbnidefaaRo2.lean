/- Walks: mapRoads of the program: the map of roads. -/
import Derived.Test.YtdnjeahbnidefaaRo1
import Derived.Test.YtdnjeahbnidefaaMaps
import Derived.Test.YtdnjeahbnidefaaGA
namespace Go.Proofs.Ytdnjeahbnidefaa
open Go.RowKit

/-- a map more -/
theorem RMap.grow {w w2 : World} {base b k : Nat} {g : Nat → Nat} (h : RMap w base b k (fun _ _ => -1) 0 g) (hB : base ≤ w.heap.size) (hg : (w.alloc (.map #[] 0)).grownBy w2 (some b))
    (ho : OM w2 b (k + 1) (fun t => if t = k then w.heap.size else g t)) : RMap w2 base b (k + 1) (fun _ _ => -1) 0 (fun t => if t = k then w.heap.size else g t) := by
  have hlt := h.om.lt
  have hold : ∀ t, t < k → g t < w.heap.size := fun t ht => by obtain ⟨s, hs⟩ := h.im t ht; exact hs.lt
  refine ⟨ho, fun t ht => ?_, fun t u ht hu e => ?_, fun t ht => ?_, h.base.1, fun t ht => ?_⟩
  · by_cases c : t = k
    · subst c
      rw [if_pos rfl]
      exact ⟨0, (IM.new w).kept hg (fun e => by have := Option.some.inj e; omega)⟩
    · rw [if_neg c]
      obtain ⟨s, hs⟩ := h.im t (by omega)
      exact ⟨s, (hs.alloc _).kept hg (fun e => h.off t (by omega) (Option.some.inj e))⟩
  · by_cases c : t = k
    · by_cases d : u = k
      · omega
      · rw [if_pos c, if_neg d] at e
        have := hold u (by omega)
        omega
    · by_cases d : u = k
      · rw [if_neg c, if_pos d] at e
        have := hold t (by omega)
        omega
      · rw [if_neg c, if_neg d] at e
        exact h.inj t u (by omega) (by omega) e
  · by_cases c : t = k
    · rw [if_pos c]; omega
    · rw [if_neg c]; exact h.off t (by omega)
  · by_cases c : t = k
    · rw [if_pos c]; exact hB
    · rw [if_neg c]; exact h.base.2 t (by omega)
theorem RMap.first (w : World) : RMap (w.alloc (.map #[] 0)) w.heap.size w.heap.size 0 (fun _ _ => -1) 0 (fun _ => 0) :=
  ⟨OM.new w _, fun t ht => by omega, fun t u ht => by omega, fun t ht => by omega, Nat.le_refl _, fun t ht => by omega⟩
theorem RMap.mono {w : World} {base b n N M : Nat} {e : Int → Int → Int} {g : Nat → Nat} (h : RMap w base b n e N g) (hM : N ≤ M) : RMap w base b n e M g :=
  ⟨h.om, fun t ht => by obtain ⟨s, hs⟩ := h.im t ht; exact ⟨s, hs.mono hM⟩, h.inj, h.off, h.base⟩
theorem RMap.down {w : World} {base base' b n N : Nat} {e : Int → Int → Int} {g : Nat → Nat} (h : RMap w base b n e N g) (hb : base' ≤ base) : RMap w base' b n e N g :=
  ⟨h.om, h.im, h.inj, h.off, Nat.le_trans hb h.base.1, fun t ht => Nat.le_trans hb (h.base.2 t ht)⟩
/-- a new box lies on when a town's map is written -/
theorem box_kept {wr w2 : World} {cs : Array Value} {ty : TypeId} {base b n N : Nat} {e : Int → Int → Int} {g : Nat → Nat} (h : RMap (wr.alloc (.cells cs ty)) base b n e N g) {t : Nat} (ht : t < n) (hg : (wr.alloc (.cells cs ty)).grownBy w2 (some (g t))) : w2.heap[wr.heap.size]? = some (.cells cs ty) :=
  (hg.block wr.heap.size (by simp) (fun e1 => by
    obtain ⟨s, D, ⟨es, cl, h3, _⟩, _⟩ := h.im t ht
    rw [← Option.some.inj e1, heap_alloc_new] at h3
    cases h3)).trans (heap_alloc_new wr _)
/-- what mapRoads returns -/
def MadeMap (w : World) (n : Int) (rs : List (Int × Int × Int)) (r : Bool) (e : Ending) (w' : World) : Prop :=
  ∃ v, e = .returned (.tuple #[v, .bool r]) ∧ Below w.heap.size w w' ∧ (r = true → ∃ (b m : Nat) (g : Nat → Nat), n = m ∧ v = .map (some b) ∧ RMap w' w.heap.size b m (edge rs) 64 g)

theorem MadeMap.no {w w' : World} {n : Int} {rs : List (Int × Int × Int)} {r : Bool} {v : Value} (h : false = r) (hb : Below w.heap.size w w') : MadeMap w n rs r (.returned (.tuple #[v, .bool false])) w' := by
  subst h; exact ⟨v, rfl, hb, fun h => by cases h⟩
theorem MadeMap.yes {w w' : World} {rs : List (Int × Int × Int)} {r : Bool} {b m : Nat} {g : Nat → Nat} (h : true = r) (hb : Below w.heap.size w w') (hm : RMap w' w.heap.size b m (edge rs) 64 g) : MadeMap w m rs r (.returned (.tuple #[.map (some b), .bool true])) w' := by
  subst h; exact ⟨_, rfl, hb, fun _ => ⟨b, m, g, rfl, rfl, hm⟩⟩
set_option maxRecDepth 100000 in
set_option maxHeartbeats 4000000 in
theorem mapRoads_any (n : Int) (A : Option Addr) (rs : List (Int × Int × Int)) (m cap : Nat) (w : World) (r : Bool) (hl : rs.length = m) (hm : m ≤ 1048576) (hr : Rd w A (fl3 rs)) (hv : roadsValid n rs = r) :
    Calls Try.prog 44 #[.int .i64 n, .slice A m cap] w (MadeMap w n rs r) := by
  have Hl := hideIt hl
  have hmm := @run_makeMap Try.prog
  by_cases hbad : n < 1 ∨ 8 < n ∨ 16 < m
  · have Hf := hideIt (show false = r by
      rw [← hv, roadsValid, townsOk]
      rcases hbad with c | c | c
      · rw [decide_eq_false (by omega)]; rfl
      · rw [decide_eq_false (show ¬ n ≤ 8 by omega), Bool.and_false]; rfl
      · rw [decide_eq_false (show ¬ rs.length ≤ 16 by omega), Bool.and_false]; rfl)
    clear hv hl
    rcases hbad with c | c | c
    all_goals
      go_enter Try.func44, Try.ntmps44
      go_wp2
      all_goals
        go_ret2
        exact MadeMap.no Hf.out (Below.refl _ _)
  obtain ⟨nn, hnn⟩ := Int.eq_ofNat_of_zero_le (show 0 ≤ n by omega)
  subst hnn
  have n1 : 1 ≤ nn := by omega
  have n8 : nn ≤ 8 := by omega
  have m16 : m ≤ 16 := by omega
  have Hv := hideIt (show roadsTo nn rs m = r by rw [← hv, roadsValid, townsOk, decide_eq_true (show 1 ≤ (nn : Int) by omega), decide_eq_true (show (nn : Int) ≤ 8 by omega), decide_eq_true (show rs.length ≤ 16 by omega), hl]; rfl)
  clear hbad hv hl
  go_enter Try.func44, Try.ntmps44
  go_wp2
  go_loopw [25] (fun i wr => ∃ (k : Nat) (g : Nat → Nat), k ≤ nn ∧ i = .int .i64 k ∧ RMap wr w.heap.size w.heap.size k (fun _ _ => -1) 0 g ∧ Below w.heap.size w wr) (fun i _ => nn - (intOf i).toNat)
  case atStart => exact ⟨0, _, by omega, rfl, RMap.first w, (Below.refl _ _).alloc (Nat.le_refl _) _⟩
  case round =>
    obtain ⟨k, g, hk, rfl, hmap, hbw⟩ := hrel
    by_cases hlt : k < nn
    · have hsz := hbw.size
      go_wp2_with (at_mapUpdate; refine wpList_storeOM _ rfl (.tmp 28) (.tmp 29) (.tmp 30) rfl rfl (hmap.om.alloc _) (by omega) wr.heap.size rfl rfl ?_; intro w2 ho2 hg2)
      have hmap2 := hmap.grow hsz hg2 ho2
      have hb2 := (hbw.alloc hsz (.map #[] 0)).grown hg2 (by simp; omega) (fun j e => by cases e; exact Nat.le_refl _)
      clear hmap hbw ho2 hg2
      go_wp2
      go_roundw
      case rel => exact ⟨k + 1, _, by omega, by go_num, hmap2, hb2⟩
      case measure => simp [intOf]; omega
    · obtain rfl : k = nn := by omega
      have hmap0 : RMap wr w.heap.size w.heap.size k (edgeTo rs 0) 0 g := hmap.congr (fun _ _ _ => rfl)
      clear hmap
      go_wp2
      go_loopw [34] (fun i wr => ∃ (j : Nat), j ≤ m ∧ i = .int .i64 j ∧ roadsTo k rs j = true ∧ RMap wr w.heap.size w.heap.size k (edgeTo rs j) (2 * j) g ∧ Below w.heap.size w wr) (fun i _ => m - (intOf i).toNat)
      case atStart => exact ⟨0, by omega, rfl, rfl, hmap0, hbw⟩
      case round =>
        obtain ⟨j, hj, rfl, hto, hmap, hbj⟩ := hrel
        have Hto := hideIt hto
        clear hto hmap0 hbw
        by_cases hjm : j < m
        · have hkl : j < rs.length := by rw [Hl.out]; exact hjm
          obtain ⟨b, off, rfl, hb, hc⟩ := (hr.below hbj (Nat.le_refl _)).at3 hkl
          obtain ⟨hx, hy, hz⟩ := hc j hkl
          have hone : roadOne k rs j = (roadIn k rs j && freshTo rs j j) := rfl
          have hin := roadIn_iff (n := k) (rs := rs) (k := j)
          have Hfr : Hid (a3 rs j < b3 rs j → freshTo rs j j = decide (edgeTo rs j (a3 rs j) (b3 rs j) < 0)) := hideIt (edgeTo_neg (roadsTo_c Hto.out))
          have Hnx : Hid (freshTo rs j j = true → a3 rs j < b3 rs j → ∀ t i, edgeTo rs (j + 1) t i = if (t = a3 rs j ∧ i = b3 rs j) ∨ (t = b3 rs j ∧ i = a3 rs j) then c3 rs j else edgeTo rs j t i) := hideIt edgeTo_next
          obtain ⟨x, hx'⟩ : ∃ x, a3 rs j = x := ⟨_, rfl⟩
          obtain ⟨y, hy'⟩ : ∃ y, b3 rs j = y := ⟨_, rfl⟩
          obtain ⟨z, hz'⟩ : ∃ z, c3 rs j = z := ⟨_, rfl⟩
          rw [hx'] at hx hin Hfr Hnx
          rw [hy'] at hy hin Hfr Hnx
          rw [hz'] at hz hin Hnx
          have Hone := hideIt hone
          have hsz := hbj.size
          have bA := hbj.alloc hsz (.cells #[.int .i64 x, .int .i64 y, .int .i64 z] 32)
          have mA := hmap.alloc (.cells #[.int .i64 x, .int .i64 y, .int .i64 z] 32)
          clear hc hkl hx' hy' hz' hone hmap
          cases hri : roadIn k rs j
          · have Hf := hideIt (show false = r by rw [← Hv.out, roadsTo_no (by rw [Hone.out, hri]; rfl) m hjm])
            have hcase : x < 0 ∨ y ≤ x ∨ (k : Int) ≤ y ∨ z < 1 ∨ 99 < z := by
              rw [hri] at hin
              have := mt hin.2 (by simp)
              omega
            clear hin hri mA
            rcases hcase with c | c | c | c | c
            all_goals
              go_wp2
              all_goals
                go_ret2
                exact MadeMap.no Hf.out bA
          have Hri := hideIt hri
          obtain ⟨x0, xy, yk, z1, z99⟩ := hin.1 hri
          obtain ⟨xn, rfl⟩ := Int.eq_ofNat_of_zero_le x0
          obtain ⟨yn, rfl⟩ := Int.eq_ofNat_of_zero_le (show 0 ≤ y by omega)
          have xk : xn < k := by omega
          have ykn : yn < k := by omega
          have xyn : ¬ yn ≤ xn := by omega
          have okx : IntOk (xn : Int) := by unfold IntOk; omega
          have oky : IntOk (yn : Int) := by unfold IntOk; omega
          have okz : IntOk z := by unfold IntOk; omega
          have l1 := mA.get1 n8 xn xk
          clear hin hri
          by_cases hfresh : edgeTo rs j xn yn < 0
          rotate_left
          · have Hf := hideIt (show false = r by rw [← Hv.out, roadsTo_no (by rw [Hone.out, Hri.out, Hfr.out xy, decide_eq_false hfresh]; rfl) m hjm])
            have l2 := mA.yes xk oky (by omega)
            obtain ⟨ed, hed⟩ : ∃ ed, edgeTo rs j xn yn = ed := ⟨_, rfl⟩
            rw [hed] at l2
            clear hfresh hed
            go_wp2
            go_ret2
            exact MadeMap.no Hf.out bA
          have l2 := mA.no xk oky hfresh
          have Hfrt := hideIt (show freshTo rs j j = true by rw [Hfr.out xy, decide_eq_true hfresh])
          have Hone2 := hideIt (show roadsTo k rs (j + 1) = true by rw [roadsTo, Hto.out, Hone.out, Hri.out, Hfrt.out]; rfl)
          obtain ⟨sx, imx⟩ := mA.im xn xk
          have hsA : w.heap.size ≤ (wr.alloc (.cells #[.int .i64 xn, .int .i64 yn, .int .i64 z] 32)).heap.size := by simp; omega
          clear hfresh
          go_wp2_with (first | (at_mapUpdate; refine wpList_storeIM _ rfl (.tmp 78) (.tmp 80) (.tmp 82) rfl rfl imx (by unfold maxLen; omega) yn z rfl rfl oky okz (by omega) ?_; intro w2 hi2 hg2; have m2 := mA.stored xk hg2 _ hi2 (Nat.le_succ _); have hbox2 := box_kept mA xk hg2; have q0 : w2.cell? ⟨wr.heap.size, 0, none⟩ = some (.int .i64 xn) := cell_of_row w2 wr.heap.size 0 _ _ _ hbox2; have q1 : w2.cell? ⟨wr.heap.size, 1, none⟩ = some (.int .i64 yn) := cell_of_row w2 wr.heap.size 1 _ _ _ hbox2; have q2 : w2.cell? ⟨wr.heap.size, 2, none⟩ = some (.int .i64 z) := cell_of_row w2 wr.heap.size 2 _ _ _ hbox2; have l3 := m2.get1 n8 yn ykn; obtain ⟨sy, imy⟩ := m2.im yn ykn; clear hi2 l1 l2 imx hbox2 hx hy hz) | (at_mapUpdate; refine wpList_storeIM _ rfl (.tmp 86) (.tmp 88) (.tmp 90) rfl rfl imy (by unfold maxLen; omega) xn z rfl rfl okx okz (by omega) ?_; intro w3 hi3 hg3))
          have b2 := bA.grown hg2 hsA (fun i e => by cases e; exact mA.base.2 xn xk)
          have m3 := m2.stored ykn hg3 _ hi3 (Nat.le_succ _)
          have hs2 : w.heap.size ≤ w2.heap.size := Nat.le_trans hsA hg2.size
          have b3 := b2.grown hg3 hs2 (fun i e => by cases e; exact m2.base.2 yn ykn)
          have m4 : RMap w3 w.heap.size w.heap.size k (edgeTo rs (j + 1)) (2 * (j + 1)) g := (m3.mono (by omega)).congr (fun t i ht => by
            rw [Hnx.out Hfrt.out xy t i]
            by_cases e1 : t = yn
            · subst e1
              rw [if_pos rfl, if_neg (by omega)]
              by_cases e2 : i = xn
              · subst e2
                rw [updI_same, if_pos (.inr ⟨rfl, rfl⟩)]
              · rw [updI_ne _ _ e2, if_neg (by omega)]
            · rw [if_neg (by omega)]
              by_cases e3 : t = xn
              · subst e3
                rw [if_pos rfl]
                by_cases e2 : i = yn
                · subst e2
                  rw [updI_same, if_pos (.inl ⟨rfl, rfl⟩)]
                · rw [updI_ne _ _ e2, if_neg (by omega)]
              · rw [if_neg (by omega), if_neg (by omega)])
          clear hi3 l3 imy m2 m3 b2 hg2 hg3 q0 q1 q2 mA bA
          go_wp2
          go_roundw
          case rel => exact ⟨j + 1, by omega, by go_num, Hone2.out, m4, b3⟩
          case measure => simp [intOf]; omega
        · obtain rfl : j = m := by omega
          have Hy := hideIt (show true = r by rw [← Hv.out, Hto.out])
          have he : edgeTo rs j = edge rs := by funext a b; rw [edge, Hl.out]
          rw [he] at hmap
          clear he
          go_wp2
          go_ret2
          exact MadeMap.yes Hy.out hbj (hmap.mono (by omega))
end Go.Proofs.Ytdnjeahbnidefaa

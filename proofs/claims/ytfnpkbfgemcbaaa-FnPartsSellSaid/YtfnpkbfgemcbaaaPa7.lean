/- Walks: the iterator over the miles of a road. -/
import Derived.Test.YtfnpkbfgemcbaaaPa3
import Derived.Test.YtfnpkbfgemcbaaaIter
namespace Go.Proofs.Ytfnpkbfgemcbaaa
open Go.RowKit Go.Shelf
attribute [local go_sem] Oper.semAt_some

def encM (x : Nat × Int) : Array Value := #[.int .i64 x.1, .int .i64 x.2]

theorem milesOf_any (A : Option Addr) (n cap : Nat) (w : World) :
    Calls Try.prog 49 #[.slice A n cap] w fun e w' => e = .returned (.func (.func 61) #[] #[.pointer (some ⟨w.heap.size, 0, none⟩)]) ∧ w' = w.alloc (.cells #[.slice A n cap] 24) := by
  go_enter Try.func49, Try.ntmps49
  go_wp2
  go_ret
  exact ⟨rfl, rfl⟩

/-- a mile and its owner, who is one of the six -/
abbrev MO := { x : Nat × Int // 0 ≤ x.2 ∧ x.2 ≤ 5 }
def mileO (ps : List (Int × Int)) (j : Nat) : MO := ⟨(j, if 0 ≤ (owners ps).getD j 0 ∧ (owners ps).getD j 0 ≤ 5 then (owners ps).getD j 0 else 0), by dsimp only; split <;> omega⟩
theorem mileO_val {ps : List (Int × Int)} (hv : partsValid ps = true) (j : Nat) : (mileO ps j).1 = mileAt ps j := by
  unfold mileO mileAt
  dsimp only
  by_cases h : j < (owners ps).length
  · have := owners_val hv ((owners ps).getD j 0) (by simp [h])
    rw [if_pos this]
  · rw [List.getD_eq_getElem?_getD, List.getElem?_eq_none (by omega)]
    simp

/-- what the iterator knows of the world between two rounds -/
structure ItOk (Ow : World → Nat → Prop) (b : Nat) (W wr : World) : Prop where
  size : W.heap.size ≤ wr.heap.size
  inn : OwIn Ow wr
  nb : ¬ Ow wr b
  same : wr.heap[b]? = W.heap[b]?

set_option maxRecDepth 100000 in
set_option maxHeartbeats 2000000 in
theorem milesIt_in (n : Nat) (hn : 1 ≤ n) (l Bs b off cap : Nat) (ps : List (Int × Int)) (hv : partsValid ps = true) (w0 : World) (Ow : World → Nat → Prop) (hOa : ∀ W o j, w0.heap.size ≤ W.heap.size → Ow (W.alloc o) j → Ow W j)
    (J Jx : List MO → World → Prop)
    (W : World) (hsz : w0.heap.size ≤ W.heap.size) (hJa : ∀ pre w o, J pre w → J pre (w.alloc o))
    (hY : ∀ pre x W1, J pre W1 → pre.length < (owners ps).length → YieldAt Fence.wide (n - 1) Try.prog l (encM x.1) W1 fun e W' =>
      (e = .returned (.bool true) ∧ J (pre ++ [x]) W' ∧ KpO Ow W1 W') ∨ (e = .returned (.bool false) ∧ Jx (pre ++ [x]) W'))
    (hBs : W.cell? ⟨Bs, 0, none⟩ = some (.slice (some ⟨b, off, none⟩) ps.length cap)) (hb : b < W.heap.size)
    (hc : ∀ i, i < ps.length → W.cell? ⟨b, off + i * 2, none⟩ = some (.int .i64 (a2 ps i)) ∧ W.cell? ⟨b, off + i * 2 + 1, none⟩ = some (.int .i64 (b2 ps i)))
    (hin : OwIn Ow W) (hnb : ¬ Ow W b) (h0 : J [] W) :
    CallsIn Fence.wide n Try.prog 61 #[.func (.yield l) #[] #[], .pointer (some ⟨Bs, 0, none⟩)] W fun e W' => (∃ v, e = .returned v) ∧
      ((∃ ys, ys = upto (mileO ps) (owners ps).length ∧ J ys W') ∨ (∃ pre, (∃ k, k ≤ (owners ps).length ∧ pre = upto (mileO ps) k) ∧ Jx pre W')) := by
  have hn12 := (partsValid_len hv).2
  obtain ⟨bc, bt, bf, hbc⟩ : ∃ c t f, W.heap[b]? = some (.cells c t f) := by
    obtain ⟨o, ho, hco⟩ := cells_of_cell (hc 0 (partsValid_len hv).1).1
    cases o <;> simp [Obj.isCells] at hco
    exact ⟨_, _, _, ho⟩
  refine callsIn_of_wp Try.func61 rfl trivial ?_ rfl
  simp only [Try.ntmps61, List.size_toArray, List.length_cons, List.length_nil, Nat.reduceAdd, Nat.reduceSub, Array.replicate_succ, Array.replicate_zero, List.push_toArray, List.append_toArray, List.nil_append, List.cons_append]
  gi_wp2
  gi_loopw [3, 8] (fun m i wr => ∃ k : Nat, k ≤ ps.length ∧ i = .int .i64 k ∧ m = .int .i64 (upMiles ps k) ∧ J (upto (mileO ps) (upMiles ps k)) wr ∧ ItOk Ow b W wr)
    (fun _ i _ => ps.length - (intOf i).toNat)
  case atStart => exact ⟨0, Nat.zero_le _, rfl, rfl, h0, ⟨Nat.le_refl _, hin, hnb, rfl⟩⟩
  case round =>
    obtain ⟨k, hk, rfl, rfl, hJs, hok⟩ := hrel
    by_cases hlt : k < ps.length
    · obtain ⟨hx, hy⟩ := hc k hlt
      rw [← World.cell?_of_block (a := ⟨b, off + k * 2, none⟩) hok.same] at hx
      rw [← World.cell?_of_block (a := ⟨b, off + k * 2 + 1, none⟩) hok.same] at hy
      obtain ⟨f1, f2, f3, f4⟩ := partsValid_at hv k hlt
      have hM := upMiles_le hv k hk
      have hJ1 := hJa _ _ (.cells #[.int .i64 (a2 ps k), .int .i64 (b2 ps k)] 38) hJs
      have hok1 : ItOk Ow b W (wr.alloc (.cells #[.int .i64 (a2 ps k), .int .i64 (b2 ps k)] 38)) :=
        ⟨by have := hok.size; simp; omega, fun j hj => by have := hok.inn j (hOa _ _ _ (Nat.le_trans hsz hok.size) hj); simp; omega, fun hbb => hok.nb (hOa _ _ _ (Nat.le_trans hsz hok.size) hbb), (Below.heap_alloc _ _ _ (by have := hok.size; omega)).trans hok.same⟩
      have hg : ¬ Ow (wr.alloc (.cells #[.int .i64 (a2 ps k), .int .i64 (b2 ps k)] 38)) wr.heap.size := fun hh => by
        have := hok.inn _ (hOa _ _ _ (Nat.le_trans hsz hok.size) hh)
        omega
      have hgc := heap_alloc_new wr (.cells #[.int .i64 (a2 ps k), .int .i64 (b2 ps k)] 38)
      have hgs : wr.heap.size < (wr.alloc (.cells #[.int .i64 (a2 ps k), .int .i64 (b2 ps k)] 38)).heap.size := by simp
      clear hc hJs
      gi_wp2
      obtain ⟨wo, hwo⟩ : ∃ wo, wr.alloc (.cells #[.int .i64 (a2 ps k), .int .i64 (b2 ps k)] 38) = wo := ⟨_, rfl⟩
      rw [hwo] at hJ1 hok1 hg hgc hgs
      rw [hwo]
      obtain ⟨g, hgg⟩ : ∃ g, wr.heap.size = g := ⟨_, rfl⟩
      rw [hgg] at hg hgc hgs
      rw [hgg]
      clear hwo hgg hx hy hok
      gi_loopw [3, 14] (fun m j wi => ∃ q M : Nat, M = upMiles ps k + q ∧ q ≤ (b2 ps k).toNat ∧ j = .int .i64 q ∧ m = .int .i64 M ∧ J (upto (mileO ps) M) wi ∧ ItOk Ow b W wi ∧ ¬ Ow wi g ∧ wi.heap[g]? = some (.cells #[.int .i64 (a2 ps k), .int .i64 (b2 ps k)] 38))
        (fun _ j _ => (b2 ps k).toNat - (intOf j).toNat)
      case atStart => exact ⟨0, _, rfl, Nat.zero_le _, rfl, rfl, hJ1, hok1, hg, hgc⟩
      case round =>
        obtain ⟨q, M, hMe, hq, rfl, rfl, hJq, hokq, hgq, hgcq⟩ := hrel
        have HM := hideIt hMe
        clear hMe
        clear hJ1 hok1 hg hgc hgs
        by_cases hql : q < (b2 ps k).toNat
        · have hqi : (q : Int) < b2 ps k := by omega
          have hcell := cell_of_row wr g 0 _ _ _ hgcq
          have hlen : M < (owners ps).length := by
            have := upMiles_mono ps (k + 1) hlt
            rw [upMiles_succ ps k hlt] at this
            have := HM.out
            omega
          have hMq : M ≤ 2000 := by have := owners_le hv; omega
          obtain ⟨fn, tmps, assign, body, hyy, hR⟩ := hY _ (mileO ps M) wr hJq (by rw [upto_len]; exact hlen)
          have hat : (mileO ps M).1 = (M, a2 ps k) := by rw [mileO_val hv]; unfold mileAt; rw [HM.out, owners_at ps k q hlt hql]
          rw [hat] at hyy
          dsimp only [encM] at hyy
          clear hat hY
          have Hc := hideIt hcell
          gi_wp2
          refine hR.mono ?_
          rintro e W3 (⟨rfl, hJ3, hk3⟩ | ⟨rfl, hJx3⟩)
          · gi_wp2
            go_roundw
            case rel =>
              refine ⟨q + 1, M + 1, by have := HM.out; omega, by omega, by go_num, by go_num, by rw [upto_succ]; exact hJ3,
                ⟨Nat.le_trans hokq.size hk3.size, hk3.inn hokq.inn, hk3.not_own hokq.inn hokq.nb (by have := hokq.size; omega), ?_⟩,
                hk3.not_own hokq.inn hgq (Array.getElem?_eq_some_iff.1 hgcq).1, hk3.same hokq.inn _ _ _ _ hgq hgcq⟩
              rw [← hokq.same] at hbc
              rw [hk3.same hokq.inn _ _ _ _ hokq.nb hbc, ← hokq.same, hbc]
            case measure => simp [intOf]; omega
          · gi_wp2
            refine bodyPost_ret (results_none rfl _ _ _) rfl ?_
            exact ⟨⟨_, rfl⟩, .inr ⟨_, ⟨M + 1, by omega, (upto_succ _ _).symm⟩, hJx3⟩⟩
        · obtain rfl : q = (b2 ps k).toNat := by omega
          have hqi : b2 ps k ≤ ((b2 ps k).toNat : Int) := by omega
          gi_wp2
          go_roundw
          case rel => exact ⟨k + 1, by omega, by go_num, by rw [upMiles_succ ps k hlt, HM.out], by rw [upMiles_succ ps k hlt, ← HM.out]; exact hJq, hokq⟩
          case measure => simp [intOf]; omega
    · obtain rfl : k = ps.length := by omega
      gi_wp2
      go_end0
      exact ⟨⟨_, rfl⟩, .inl ⟨_, rfl, by rw [owners_len]; exact hJs⟩⟩

theorem miles_stopsO (n : Nat) (hn : 1 ≤ n) (Bs b off cap : Nat) (ps : List (Int × Int)) (hv : partsValid ps = true) (w : World) (Ow : World → Nat → Prop) (hOw : OwOk Ow w)
    (hBs : Bs < w.heap.size) (hBc : w.cell? ⟨Bs, 0, none⟩ = some (.slice (some ⟨b, off, none⟩) ps.length cap)) (hb : b < w.heap.size)
    (hc : ∀ i, i < ps.length → w.cell? ⟨b, off + i * 2, none⟩ = some (.int .i64 (a2 ps i)) ∧ w.cell? ⟨b, off + i * 2 + 1, none⟩ = some (.int .i64 (b2 ps i)))
    (hnb : ¬ Ow w b) :
    SeqStopsK Fence.wide n Try.prog 61 #[.pointer (some ⟨Bs, 0, none⟩)] (fun x : MO => encM x.1) (KpO Ow) (fun ys => ys = upto (mileO ps) (owners ps).length)
      (fun pre => ∃ k, k ≤ (owners ps).length ∧ pre = upto (mileO ps) k) (owners ps).length w := fun l J Jx W hW hJ _ hY h0 =>
  milesIt_in n hn l Bs b off cap ps hv w Ow hOw.alloc J Jx W hW.size (fun pre W1 o hj => hJ pre W1 _ none hj (World.grownBy_alloc W1 o none) (fun r e => by cases e)) hY
    ((hW.cell (p := ⟨Bs, 0, none⟩) hBs).trans hBc) (Nat.lt_of_lt_of_le hb hW.size)
    (fun i hi => ⟨(hW.cell (p := ⟨b, off + i * 2, none⟩) hb).trans (hc i hi).1, (hW.cell (p := ⟨b, off + i * 2 + 1, none⟩) hb).trans (hc i hi).2⟩)
    (hOw.inn W hW) (fun h => hnb (hOw.here W b hW h)) h0
theorem upto_val {ps : List (Int × Int)} (hv : partsValid ps = true) (k : Nat) : (upto (mileO ps) k).map Subtype.val = upto (mileAt ps) k := by
  unfold upto
  rw [List.map_map]
  apply List.map_congr_left
  intro j _
  exact mileO_val hv j
theorem miles_stops (n : Nat) (hn : 1 ≤ n) (Bs b off cap : Nat) (ps : List (Int × Int)) (hv : partsValid ps = true) (w : World) (Ow : World → Nat → Prop) (hOw : OwOk Ow w)
    (hBs : Bs < w.heap.size) (hBc : w.cell? ⟨Bs, 0, none⟩ = some (.slice (some ⟨b, off, none⟩) ps.length cap)) (hb : b < w.heap.size)
    (hc : ∀ i, i < ps.length → w.cell? ⟨b, off + i * 2, none⟩ = some (.int .i64 (a2 ps i)) ∧ w.cell? ⟨b, off + i * 2 + 1, none⟩ = some (.int .i64 (b2 ps i)))
    (hnb : ¬ Ow w b) :
    SeqStopsK Fence.wide n Try.prog 61 #[.pointer (some ⟨Bs, 0, none⟩)] encM (KpO Ow) (fun ys => ys = upto (mileAt ps) (owners ps).length)
      (fun pre => ∃ k, k ≤ (owners ps).length ∧ pre = upto (mileAt ps) k) (owners ps).length w := fun l J Jx W hW hJ hJx hY h0 => by
  refine (miles_stopsO n hn Bs b off cap ps hv w Ow hOw hBs hBc hb hc hnb l (fun pre W => J (pre.map Subtype.val) W) (fun pre W => Jx (pre.map Subtype.val) W) W hW
    (fun s A B row hs hg hr => hJ _ A B row hs hg hr) (fun s A B row hs hg hr => hJx _ A B row hs hg hr)
    (fun pre x W1 hj hl => (hY (pre.map Subtype.val) x.1 W1 hj (by simpa using hl)).mono (fun e W' h => by simpa using h)) h0).mono ?_
  rintro e W' ⟨he, ⟨ys, rfl, hj⟩ | ⟨pre, ⟨k, hk, rfl⟩, hj⟩⟩
  · exact ⟨he, .inl ⟨_, upto_val hv _, hj⟩⟩
  · exact ⟨he, .inr ⟨_, ⟨k, hk, upto_val hv k⟩, hj⟩⟩
end Go.Proofs.Ytfnpkbfgemcbaaa

/- Walks: a pile of teams: push. -/
import Derived.Test.YtckjagpjljbohaaPile
import Derived.Test.YtckjagpjljbohaaHw2L
import Derived.IntWalk
namespace Go.Proofs.Ytckjagpjljbohaa
open Go.RowKit

/-- what push leaves -/
def PPush (b : Bool) (w : World) (h base : Nat) (o : Option Nat) (n : Nat) (xs : List (Int × Int)) (z : Int × Int) (e : Ending) (w' : World) : Prop :=
  e = .returned (.tuple #[]) ∧ ∃ g' c' ys, PL b w' h base (some g') (n + 1) c' ys ∧ HeapN (pkey b) ys (n + 1) ∧ (∀ u, u ∈ ys ↔ u = z ∨ u ∈ xs) ∧ PStep w w' h o (some g')
/-- the pile's teams lie in another order -/
def PT (b : Bool) (w w' : World) (h base g n c : Nat) (xs ys : List (Int × Int)) : Prop := PL b w' h base (some g) n c ys ∧ (∀ x, x ∈ ys ↔ x ∈ xs) ∧ w.grownBy w' (some g)
theorem PT.refl {b : Bool} {w : World} {h base g n c : Nat} {xs : List (Int × Int)} (hp : PL b w h base (some g) n c xs) : PT b w w h base g n c xs xs := ⟨hp, fun _ => Iff.rfl, World.grownBy.refl _ _⟩
theorem grownP_trans {w w1 w2 : World} {g : Nat} (h : w.grownBy w1 (some g)) (h2 : w1.grownBy w2 (some g)) : w.grownBy w2 (some g) :=
  ⟨h2.os.trans h.os, h2.tape.trans h.tape, h2.output.trans h.output, Nat.le_trans h.size h2.size, fun k hk hne => (h2.block k (Nat.lt_of_lt_of_le hk h.size) hne).trans (h.block k hk hne)⟩
theorem PT.below {b : Bool} {w w' w'' : World} {h base g n c : Nat} {xs ys : List (Int × Int)} (t : PT b w w' h base g n c xs ys) (hb : Below w'.heap.size w' w'') : PT b w w'' h base g n c xs ys :=
  ⟨t.1.below hb, t.2.1, grownP_trans t.2.2 ⟨hb.os, hb.tape, hb.output, hb.size, fun k hk _ => hb.block k hk⟩⟩
theorem PT.swap {b : Bool} {w w' w'' : World} {h base g n c i j : Nat} {xs ys : List (Int × Int)} (t : PT b w w' h base g n c xs ys) (hi : i < n) (hj : j < n) (ho : w''.ownsRow base 54 2 (.slice (some ⟨g, 0, none⟩) n c) n (fl2 (swp ys i j))) (hg : w'.grownBy w'' (some g)) : PT b w w'' h base g n c xs (swp ys i j) := by
  have hl := t.1.2.1
  have hne := t.1.ne
  exact ⟨⟨(hg.block h t.1.lt (fun e => hne e.symm)).trans t.1.1, by rw [swp_len]; exact hl, ho⟩, fun x => (mem_swp (by omega) (by omega) x).trans (t.2.1 x), grownP_trans t.2.2 hg⟩

theorem PT.drew {b : Bool} {w w' : World} {h base g n c : Nat} {xs ys : List (Int × Int)} (t : PT b w w' h base g n c xs ys) : PT b w w'.drew h base g n c xs ys := ⟨t.1, t.2.1, ⟨t.2.2.os, t.2.2.tape, t.2.2.output, t.2.2.size, t.2.2.block⟩⟩
theorem PSet.mk {b : Bool} {w w' : World} {h base g n c k q : Nat} {xs ys : List (Int × Int)} {u1 v1 u2 v2 : Int} (t : PT b w w' h base g n c xs ys) (hl : ys.length = n) (hk : k < n) (hq : q < n) (hkq : k ≠ q) (he : (a2 ys k = u1 ∧ b2 ys k = v1) ∧ a2 ys q = u2 ∧ b2 ys q = v2) :
    PT b w ((((w'.setCell ⟨g, k * 2, none⟩ (.int .i64 u2)).setCell ⟨g, k * 2 + 1, none⟩ (.int .i64 v2)).setCell ⟨g, q * 2, none⟩ (.int .i64 u1)).setCell ⟨g, q * 2 + 1, none⟩ (.int .i64 v1)) h base g n c xs (swp ys q k) := by
  obtain ⟨⟨rfl, rfl⟩, rfl, rfl⟩ := he
  have ho : w'.ownsRow base 54 2 (.slice (some ⟨g, 0, none⟩) n c) n (fl2 ys) := t.1.2.2
  have hst := row2_store (row2_store ho (k := k) (by omega) (a2 ys q) (b2 ys q)) (k := q) (by rw [List.length_set]; omega) (a2 ys k) (b2 ys k)
  have hset : (ys.set k (a2 ys q, b2 ys q)).set q (a2 ys k, b2 ys k) = swp ys q k := by
    rw [List.set_comm _ _ hkq]; rfl
  rw [hset] at hst
  exact t.swap hq hk hst (only_setCell (p := ⟨g, q * 2 + 1, none⟩) (only_setCell (p := ⟨g, q * 2, none⟩) (only_setCell (p := ⟨g, k * 2 + 1, none⟩) (only_setCell (p := ⟨g, k * 2, none⟩) (World.grownBy.refl w' (some g)) (.inl rfl) (.int .i64 (a2 ys q))) (.inl rfl) (.int .i64 (b2 ys q))) (.inl rfl) (.int .i64 (a2 ys k))) (.inl rfl) (.int .i64 (b2 ys k)))
theorem pless_any (b : Bool) (x y u v : Int) (w : World) (r : Bool) (hr : decide (pkey b (x, y) < pkey b (u, v)) = r) : Calls Try.prog (pfn b) #[.agg #[.int .i64 x, .int .i64 y], .agg #[.int .i64 u, .int .i64 v]] w (Ret w (.bool r)) := by
  subst hr
  cases b
  · exact pless2_any x y u v w
  · exact pless1_any x y u v w
theorem PPush.mk {b : Bool} {w w4 w' : World} {h base n g c : Nat} {o : Option Nat} {xs ys : List (Int × Int)} {z : Int × Int} (t : PT b w4 w' h base g (n + 1) c (xs ++ [z]) ys) (h2 : HeapN (pkey b) ys (n + 1)) (h4 : PStep w w' h o (some g)) : PPush b w h base o n xs z (.returned (.tuple #[])) w' :=
  ⟨rfl, g, c, ys, t.1, h2, fun u => (t.2.1 u).trans (by rw [List.mem_append, List.mem_singleton, or_comm]), h4⟩
set_option maxRecDepth 100000 in
set_option maxHeartbeats 4000000 in
theorem pilePush_any (b : Bool) (h base : Nat) (o : Option Nat) (n c : Nat) (xs : List (Int × Int)) (x y : Int) (w : World) (hp : PL b w h base o n c xs) (hbs : base ≤ w.heap.size) (hn : n ≤ 1000000) (hh : HeapN (pkey b) xs n) :
    Calls Try.prog 27 #[.pointer (some ⟨h, 0, none⟩), .agg #[.int .i64 x, .int .i64 y]] w (PPush b w h base o n xs (x, y)) := by
  obtain ⟨i0, hi, hz0, hz1, hz2⟩ := info_parts info_team
  have Hln := hideIt (show (xs ++ [(x, y)]).length = n + 1 by rw [List.length_append, hp.2.1]; rfl)
  have Hfl := hideIt (fl2_snoc xs (x, y))
  have Hup : Hid (HeapUp (pkey b) (xs ++ [(x, y)]) (n + 1) n) := hideIt (hh.snoc hp.2.1 (x, y))
  have hp1 := hp.alloc (.cells #[.int .i64 x, .int .i64 y] 54)
  have Hst := hideIt (PStep.of_below h o ((Below.refl w.heap.size w).alloc (Nat.le_refl _) (.cells #[.int .i64 x, .int .i64 y] 54)))
  have hnew := heap_alloc_new w (.cells #[.int .i64 x, .int .i64 y] 54)
  have hsz : (w.alloc (.cells #[.int .i64 x, .int .i64 y] 54)).heap.size = w.heap.size + 1 := by simp
  clear hh
  go_enter Try.func27, Try.ntmps27
  go_wp2
  generalize hw1 : w.alloc (.cells #[.int .i64 x, .int .i64 y] 54) = w1 at *
  have hS : w.heap.size < w1.heap.size := by omega
  obtain ⟨S, hSe⟩ : ∃ S, w.heap.size = S := ⟨_, rfl⟩
  rw [hSe] at hnew hS
  have q0 : w1.cell? ⟨S, 0, none⟩ = some (.int .i64 x) := cell_of_row w1 S 0 _ _ _ hnew
  have q1 : w1.cell? ⟨S, 1, none⟩ = some (.int .i64 y) := cell_of_row w1 S 1 _ _ _ hnew
  have hcell := hp1.cell
  have hlt := hp1.lt
  have hfr : w1.frozen? ⟨h, 0, none⟩ = false := by simp [World.frozen?, hp1.1]
  have Hp : Hid (PL b w1 h base o n c xs) := hideIt hp1
  have hown := hp1.2.2
  have hbase : base ≤ w1.heap.size := by omega
  rw [hSe]
  clear hp hp1 hw1 hnew hsz
  go_region_law (first
    | (refine step_append_at rfl (.tmp 10) (.tmp 12) 56 (by rfl) base 54 i0 _ 2 16 Try.underlying56 hi hz0 hz1 hz2 rfl (by omega) _ n (fl2 xs) (by rfl) (hown.alloc _) ⟨w1.heap.size, 0, none⟩ 1 1 [.int .i64 x, .int .i64 y] (by rfl) rfl (news_at (cs := #[.int .i64 x, .int .i64 y]) (t := 54) (heap_alloc_new w1 _)) (by simp [Value.oneCell']) (by unfold maxLen; omega) (by omega) (by simp; omega) (n + 1) rfl ?_
       intro A1 c1 w3 hown1 hgrow1 hwhere
       have hmid := (Hp.out.alloc (.cells #[.int .i64 x, .int .i64 y] 54)).mid rfl hgrow1
       have hc3 : w3.cell? ⟨h, 0, none⟩ = some (psl o n c) := cell_of_row w3 h 0 _ _ _ hmid
       have hf3 : w3.frozen? ⟨h, 0, none⟩ = false := by simp [World.frozen?, hmid]
       clear hmid)
    | (refine step_append_at rfl (.tmp 10) (.tmp 12) 56 (by rfl) base 54 i0 _ 2 16 Try.underlying56 hi hz0 hz1 hz2 rfl (by omega) _ n (fl2 xs) (by rfl) (own_drewP (hown.alloc (.cells #[.int .i64 x, .int .i64 y] 54))) ⟨w1.heap.size, 0, none⟩ 1 1 [.int .i64 x, .int .i64 y] (by rfl) rfl (news_at (w := (w1.alloc (.cells #[.int .i64 x, .int .i64 y] 54)).drew) (cs := #[.int .i64 x, .int .i64 y]) (t := 54) (heap_alloc_new w1 _)) (by simp [Value.oneCell']) (by unfold maxLen; omega) (by omega) (by simp; omega) (n + 1) rfl ?_
       intro A1 c1 w3 hown1 hgrow1 hwhere
       have hmid := (Hp.out.alloc (.cells #[.int .i64 x, .int .i64 y] 54)).mid rfl (undrewP hgrow1)
       have hc3 : w3.cell? ⟨h, 0, none⟩ = some (psl o n c) := cell_of_row w3 h 0 _ _ _ hmid
       have hf3 : w3.frozen? ⟨h, 0, none⟩ = false := by simp [World.frozen?, hmid]
       clear hmid))
  all_goals
    obtain ⟨g, rfl, _, _⟩ := own_some hown1 (by omega)
    have hA : o = some g ∨ (w1.alloc (.cells #[.int .i64 x, .int .i64 y] 54)).heap.size ≤ g := by
      rcases hwhere with e | e
      · exact .inl ((psl_own o n c).symm.trans e.symm)
      · have e2 := Option.some.inj e
        exact .inr (Nat.le_of_eq e2.symm)
    have hown2 : w3.ownsRow base 54 2 (.slice (some ⟨g, 0, none⟩) (n + 1) c1) (n + 1) (fl2 (xs ++ [(x, y)])) := by rw [Hfl.out]; exact hown1
    have hres := (Hp.out.alloc (.cells #[.int .i64 x, .int .i64 y] 54)).pushed (w2 := w3.setCell ⟨h, 0, none⟩ (.slice (some ⟨g, 0, none⟩) (n + 1) c1)) (by first | exact hgrow1 | exact undrewP hgrow1) Hln.out hown2 rfl hA
    obtain ⟨hp4, hs4⟩ := hres
    have hs5 := hideIt ((Hst.out.trans (PStep.of_below h o ((Below.refl w1.heap.size w1).alloc (Nat.le_refl _) (.cells #[.int .i64 x, .int .i64 y] 54)))).trans hs4)
    clear hwhere hown1 hown2 hgrow1 hs4 hA hc3 hf3
    generalize hw4 : w3.setCell ⟨h, 0, none⟩ (.slice (some ⟨g, 0, none⟩) (n + 1) c1) = w4 at *
    have hcell4 : w4.cell? ⟨h, 0, none⟩ = some (.slice (some ⟨g, 0, none⟩) (n + 1) c1) := hp4.cell
    have hsub : IntKind.i64.wrap ((n : Int) + 1 - 1) = (n : Int) := by rw [show (n : Int) + 1 - 1 = n by omega]; exact IntWalk.i64_in _ (by omega)
    have hsub2 : IntKind.i64.wrap (n : Int) = (n : Int) := IntWalk.i64_in _ (by omega)
    clear hw4
    have Hp4 : Hid (PL b w4 h base (some g) (n + 1) c1 (xs ++ [(x, y)])) := hideIt hp4
    clear hp4 hown Hp Hst
    go_wp2
    go_loopw [4] (fun i wr => ∃ (k : Nat) (ys : List (Int × Int)), i = .int .i64 k ∧ k < n + 1 ∧ HeapUp (pkey b) ys (n + 1) k ∧ PT b w4 wr h base g (n + 1) c1 (xs ++ [(x, y)]) ys) (fun i _ => (intOf i).toNat)
    case atStart => exact ⟨n, xs ++ [(x, y)], rfl, by omega, Hup.out, PT.refl Hp4.out⟩
    case round =>
      obtain ⟨k, ys, rfl, hk, huk, ht⟩ := hrel
      have Huk : Hid (HeapUp (pkey b) ys (n + 1) k) := hideIt huk
      have Ht : Hid (PT b w4 wr h base g (n + 1) c1 (xs ++ [(x, y)]) ys) := hideIt ht
      have hcw : wr.cell? ⟨h, 0, none⟩ = some (.slice (some ⟨g, 0, none⟩) (n + 1) c1) := ht.1.cell
      have hcf := ht.1.cellF
      have hl := hideIt ht.1.2.1
      have ho : wr.ownsRow base 54 2 (.slice (some ⟨g, 0, none⟩) (n + 1) c1) (n + 1) (fl2 ys) := ht.1.2.2
      clear huk ht hcell4 hsub hsub2
      by_cases hk0 : k = 0
      · subst hk0
        have hs6 := hs5.out.trans (PStep.of_grown h Ht.out.2.2)
        go_wp2
        go_end0
        exact PPush.mk Ht.out Huk.out.top hs6
      · obtain ⟨p, hkp⟩ : ∃ p, k = p + 1 := ⟨k - 1, by omega⟩
        obtain ⟨q, hq, hq2⟩ : ∃ q : Nat, (p : Int) / 2 = q ∧ q = (k - 1) / 2 := ⟨p / 2, by omega, by omega⟩
        have Hq2 := hideIt hq2
        have hqn : q < n + 1 := by omega
        have Hqk := hideIt (show q < k by omega)
        have hx1 := row2_a ho (k := k) (by rw [hl.out]; exact hk)
        have hx2 := row2_a ho (k := q) (by rw [hl.out]; exact hqn)
        obtain ⟨u1, e1⟩ : ∃ u, a2 ys k = u := ⟨_, rfl⟩
        obtain ⟨v1, e2⟩ : ∃ u, b2 ys k = u := ⟨_, rfl⟩
        obtain ⟨u2, e3⟩ : ∃ u, a2 ys q = u := ⟨_, rfl⟩
        obtain ⟨v2, e4⟩ : ∃ u, b2 ys q = u := ⟨_, rfl⟩
        rw [e1, e2] at hx1
        rw [e3, e4] at hx2
        obtain ⟨hx1, hy1⟩ := hx1
        obtain ⟨hx2, hy2⟩ := hx2
        have HE := hideIt (And.intro (And.intro e1 e2) (And.intro e3 e4))
        have h0k : (0 : Int) < (k : Int) := by omega
        have hs1 : IntKind.i64.wrap ((k : Int) - 1) = (p : Int) := by rw [show (k : Int) - 1 = p by omega]; exact IntWalk.i64_in _ (by omega)
        have hk1 : (k : Int) < (n : Int) + 1 := by omega
        have hq1 : (q : Int) < (n : Int) + 1 := by omega
        clear e1 e2 e3 e4 hq2 hk0 hkp
        go_wp2
        go_still_tail 18, (by kernel_rfl)
        change wpList _ _ _ _ _ wr.drew
        obtain ⟨r, hr⟩ : ∃ r, decide (ky (pkey b) ys k < ky (pkey b) ys q) = r := ⟨_, rfl⟩
        have hcall := pless_any b u1 v1 u2 v2 wr.drew r (by rw [← hr, ← HE.out.1.1, ← HE.out.1.2, ← HE.out.2.1, ← HE.out.2.2]; rfl)
        have Hr := hideIt hr
        clear hs1 hq hr
        have Hc : Hid (wr.cell? ⟨h, 0, none⟩ = some (.slice (some ⟨g, 0, none⟩) (n + 1) c1)) := hideIt hcw
        clear hcw hcf hfr q0 q1 hcell hk1 hq1 h0k
        cases b
        all_goals
          first | rw [show pfn false = 26 from rfl] at * | rw [show pfn true = 25 from rfl] at *
          go_wp2_with fail
          refine hcall.mono ?_
          rintro e w5 ⟨rfl, hb5⟩
          have Ht5 := hideIt (Ht.out.below (w'' := w5) ⟨hb5.os, hb5.tape, hb5.output, hb5.size, hb5.block⟩)
          clear hcall ho
          cases r
          · have hstop := Huk.out.stop (by rw [← Hq2.out]; have := Hr.out; rw [decide_eq_false_iff_not] at this; omega)
            have hs6 := hs5.out.trans (PStep.of_grown h Ht5.out.2.2)
            go_wp2
            go_end0
            exact PPush.mk Ht5.out hstop hs6
          · have hstep := Huk.out.step hl.out (by have := Hqk.out; omega) hk Hq2.out (by have := Hr.out; rw [decide_eq_true_eq] at this; exact this)
            have Hstep := hideIt hstep
            have hc5 : w5.cell? ⟨h, 0, none⟩ = some (.slice (some ⟨g, 0, none⟩) (n + 1) c1) := Ht5.out.1.cell
            have ho5 : w5.ownsRow base 54 2 (.slice (some ⟨g, 0, none⟩) (n + 1) c1) (n + 1) (fl2 ys) := Ht5.out.1.2.2
            clear hstep hb5
            obtain ⟨hx1, hy1⟩ := row2_a ho5 (k := k) (by rw [hl.out]; exact hk)
            obtain ⟨hx2, hy2⟩ := row2_a ho5 (k := q) (by rw [hl.out]; exact hqn)
            rw [HE.out.1.1] at hx1
            rw [HE.out.1.2] at hy1
            rw [HE.out.2.1] at hx2
            rw [HE.out.2.2] at hy2
            have hfr5 := fun j => ho5.frozenAt j
            have hkq : k ≠ q := by have := Hqk.out; omega
            have hst := PSet.mk Ht5.out hl.out hk hqn hkq HE.out
            have Hst5 := hideIt hst
            have hk1 : (k : Int) < (n : Int) + 1 := by omega
            have hq1 : (q : Int) < (n : Int) + 1 := by omega
            clear hst ho5
            go_wp2
            go_region
            go_wp2
            go_roundw
            case rel => exact ⟨q, swp ys q k, rfl, hqn, Hstep.out, Hst5.out.drew⟩
            case measure => simp [intOf]; have := Hqk.out; omega
end Go.Proofs.Ytckjagpjljbohaa

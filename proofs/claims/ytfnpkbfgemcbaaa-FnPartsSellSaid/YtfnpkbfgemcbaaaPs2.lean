/- Walks: the miles of which some are sold: an iterator that ranges over another one. -/
import Derived.Test.YtfnpkbfgemcbaaaPs1
namespace Go.Proofs.Ytfnpkbfgemcbaaa
open Go.RowKit Go.Shelf
attribute [local go_sem] Oper.semAt_some

/-- a mile, and whose it is when those from f to t are sold to o -/
def soldOne (f t o : Int) (x : Nat × Int) : Nat × Int := (x.1, if f ≤ (x.1 : Int) ∧ (x.1 : Int) < t then o else x.2)
theorem room_any (k : Nat) : Fence.wide.room k := fun d hd => by cases hd
theorem yield_depth {n m : Nat} {P : Program} {l : Nat} {args : Array Value} {W : World} {R : Ending → World → Prop} (h : YieldAt Fence.wide n P l args W R) : YieldAt Fence.wide m P l args W R := by
  obtain ⟨fn, tmps, assign, body, hy, hR⟩ := h
  exact ⟨fn, tmps, assign, body, hy, hR.1, fun c cs _ => hR.2 c cs (room_any _)⟩
/-- the iterator over the miles, for a caller whose body owns none of its blocks -/
theorem miles_stopsB (n : Nat) (hn : 1 ≤ n) (Bs b off cap : Nat) (ps : List (Int × Int)) (hv : partsValid ps = true) (w : World) (Ow : World → Nat → Prop) (hOa : ∀ W o j, w.heap.size ≤ W.heap.size → Ow (W.alloc o) j → Ow W j)
    (hin : ∀ W, Below w.heap.size w W → OwIn Ow W) (hnb : ∀ W, Below w.heap.size w W → ¬ Ow W b)
    (hBs : Bs < w.heap.size) (hBc : w.cell? ⟨Bs, 0, none⟩ = some (.slice (some ⟨b, off, none⟩) ps.length cap)) (hb : b < w.heap.size)
    (hc : ∀ i, i < ps.length → w.cell? ⟨b, off + i * 2, none⟩ = some (.int .i64 (a2 ps i)) ∧ w.cell? ⟨b, off + i * 2 + 1, none⟩ = some (.int .i64 (b2 ps i))) :
    SeqStopsK Fence.wide n Try.prog 61 #[.pointer (some ⟨Bs, 0, none⟩)] encM (KpO Ow) (fun ys => ys = upto (mileAt ps) (owners ps).length)
      (fun pre => ∃ k, k ≤ (owners ps).length ∧ pre = upto (mileAt ps) k) (owners ps).length w := fun l J Jx W hW hJ hJx hY h0 => by
  refine (milesIt_in n hn l Bs b off cap ps hv w Ow hOa (fun pre W => J (pre.map Subtype.val) W) (fun pre W => Jx (pre.map Subtype.val) W) W hW.size
    (fun pre W1 o hj => hJ _ W1 _ none hj (World.grownBy_alloc W1 o none) (fun r e => by cases e))
    (fun pre x W1 hj hl => (hY (pre.map Subtype.val) x.1 W1 hj (by simpa using hl)).mono (fun e W' h => by simpa using h))
    ((hW.cell (p := ⟨Bs, 0, none⟩) hBs).trans hBc) (Nat.lt_of_lt_of_le hb hW.size)
    (fun i hi => ⟨(hW.cell (p := ⟨b, off + i * 2, none⟩) hb).trans (hc i hi).1, (hW.cell (p := ⟨b, off + i * 2 + 1, none⟩) hb).trans (hc i hi).2⟩)
    (hin W hW) (hnb W hW) h0).mono ?_
  rintro e W' ⟨he, ⟨ys, rfl, hj⟩ | ⟨pre, ⟨k, hk, rfl⟩, hj⟩⟩
  · exact ⟨he, .inl ⟨_, upto_val hv _, hj⟩⟩
  · exact ⟨he, .inr ⟨_, ⟨k, hk, upto_val hv k⟩, hj⟩⟩
/-- what the body of soldMiles finds between two rounds -/
structure SoldI (Ow : World → Nat → Prop) (p2 p3 p4 y l : Nat) (f t o : Int) (J : List (Nat × Int) → World → Prop) (pre : List (Nat × Int)) (W : World) : Prop where
  j : J (pre.map (soldOne f t o)) W
  inn : OwIn Ow W
  n2 : ¬ Ow W p2
  n3 : ¬ Ow W p3
  n4 : ¬ Ow W p4
  ny : ¬ Ow W y
  b2 : Boxed W p2 3 (.int .i64 f)
  b3 : Boxed W p3 3 (.int .i64 t)
  b4 : Boxed W p4 3 (.int .i64 o)
  by' : Boxed W y 76 (.func (.yield l) #[] #[])
theorem boxed_kpo {Ow : World → Nat → Prop} {W W' : World} {B : Nat} {t : TypeId} {v : Value} (h : KpO Ow W W') (hi : OwIn Ow W) (hn : ¬ Ow W B) (hb : Boxed W B t v) : Boxed W' B t v := h.same hi B _ _ _ hn hb
theorem SoldI.next {Ow : World → Nat → Prop} {p2 p3 p4 y l : Nat} {f t o : Int} {J : List (Nat × Int) → World → Prop} {pre : List (Nat × Int)} {x : Nat × Int} {W W' : World} (h : SoldI Ow p2 p3 p4 y l f t o J pre W) (hk : KpO Ow W W') (hj : J ((pre ++ [x]).map (soldOne f t o)) W') : SoldI Ow p2 p3 p4 y l f t o J (pre ++ [x]) W' :=
  ⟨hj, hk.inn h.inn, hk.not_own h.inn h.n2 h.b2.lt, hk.not_own h.inn h.n3 h.b3.lt, hk.not_own h.inn h.n4 h.b4.lt, hk.not_own h.inn h.ny h.by'.lt, boxed_kpo hk h.inn h.n2 h.b2, boxed_kpo hk h.inn h.n3 h.b3, boxed_kpo hk h.inn h.n4 h.b4, boxed_kpo hk h.inn h.ny h.by'⟩
theorem SoldI.own {Ow : World → Nat → Prop} {p2 p3 p4 y l B : Nat} {f t o : Int} {J : List (Nat × Int) → World → Prop} (hon : OwOn B Ow) (hJ : OwnFrom (l + 1) J) (C : Nat) (hBC : B ≤ C) (hl : l + 1 ≤ C) (hP : ∀ pre W, SoldI Ow p2 p3 p4 y l f t o J pre W → B ≤ W.heap.size) : OwnFrom C (SoldI Ow p2 p3 p4 y l f t o J) := fun pre W W' row h hg hr => by
  have hh : ∀ j, Ow W' j → Ow W j := hon W W' row (hP pre W h) hg (fun r e => by have := (hr r e).1; omega)
  have hbx : ∀ {Q : Nat} {ty : TypeId} {v : Value}, Boxed W Q ty v → Boxed W' Q ty v := fun hb => boxed_ownFrom C _ _ (fun (_ : Unit) => _) () W W' row hb hg hr
  exact ⟨hJ _ W W' row h.j hg (fun r e => by obtain ⟨q1, q2⟩ := hr r e; exact ⟨by omega, q2⟩), fun j hj => Nat.lt_of_lt_of_le (h.inn j (hh j hj)) hg.size, fun q => h.n2 (hh _ q), fun q => h.n3 (hh _ q), fun q => h.n4 (hh _ q), fun q => h.ny (hh _ q), hbx h.b2, hbx h.b3, hbx h.b4, hbx h.by'⟩
set_option maxRecDepth 100000 in
set_option maxHeartbeats 4000000 in
theorem sold_goes (m : Nat) (hm : 4 ≤ m) (p1 p2 p3 p4 b off cap : Nat) (ps : List (Int × Int)) (hv : partsValid ps = true) (f t o : Int) (low : Nat) (w : World) (Ow : World → Nat → Prop) (hon : OwOn w.heap.size Ow)
    (hin : ∀ W, Below w.heap.size w W → OwIn Ow W) (hno : ∀ W, Below w.heap.size w W → ∀ j, Ow W j → low ≤ j) (hp : p1 < low ∧ p2 < low ∧ p3 < low ∧ p4 < low ∧ b < low) (hlow : low ≤ w.heap.size)
    (x1 : Boxed w p1 24 (.slice (some ⟨b, off, none⟩) ps.length cap)) (x2 : Boxed w p2 3 (.int .i64 f)) (x3 : Boxed w p3 3 (.int .i64 t)) (x4 : Boxed w p4 3 (.int .i64 o))
    (hc : ∀ i, i < ps.length → w.cell? ⟨b, off + i * 2, none⟩ = some (.int .i64 (a2 ps i)) ∧ w.cell? ⟨b, off + i * 2 + 1, none⟩ = some (.int .i64 (b2 ps i))) :
    Goes m 60 #[.pointer (some ⟨p1, 0, none⟩), .pointer (some ⟨p2, 0, none⟩), .pointer (some ⟨p3, 0, none⟩), .pointer (some ⟨p4, 0, none⟩)] Ow ((upto (mileAt ps) (owners ps).length).map (soldOne f t o)) w := by
  intro l J W hW hl0 hl1 hJ h0 hY
  have hsz := hW.size
  obtain ⟨q1, q2, q3, q4, qb⟩ := hp
  have y1 := (boxed_below x1 hW (by omega)).alloc (.cells #[.func (.yield l) #[] #[]] 76)
  have y2 := (boxed_below x2 hW (by omega)).alloc (.cells #[.func (.yield l) #[] #[]] 76)
  have y3 := (boxed_below x3 hW (by omega)).alloc (.cells #[.func (.yield l) #[] #[]] 76)
  have y4 := (boxed_below x4 hW (by omega)).alloc (.cells #[.func (.yield l) #[] #[]] 76)
  have yy := Boxed.new W 76 (.func (.yield l) #[] #[])
  have c1 := y1.cell
  refine callsIn_of_wp_marks Try.func60 rfl trivial ?_ rfl
  simp only [Try.ntmps60, List.size_toArray, List.length_cons, List.length_nil, Nat.reduceAdd, Nat.reduceSub, Array.replicate_succ, Array.replicate_zero, List.push_toArray, List.append_toArray, List.nil_append, List.cons_append]
  gi_wp2_with fail
  refine ⟨trivial, fun _ => by omega, (callsIn_wide.2 (milesOf_any _ _ _ _)).mono ?_⟩
  rintro e w2 ⟨rfl, rfl⟩
  gi_wp2_with fail
  have hbox := Boxed.new (W.alloc (.cells #[.func (.yield l) #[] #[]] 76)) 24 (.slice (some ⟨b, off, none⟩) ps.length cap)
  have z2 := y2.alloc (.cells #[.slice (some ⟨b, off, none⟩) ps.length cap] 24)
  have z3 := y3.alloc (.cells #[.slice (some ⟨b, off, none⟩) ps.length cap] 24)
  have z4 := y4.alloc (.cells #[.slice (some ⟨b, off, none⟩) ps.length cap] 24)
  have zy := yy.alloc (.cells #[.slice (some ⟨b, off, none⟩) ps.length cap] 24)
  have hB2 : Below W.heap.size W ((W.alloc (.cells #[.func (.yield l) #[] #[]] 76)).alloc (.cells #[.slice (some ⟨b, off, none⟩) ps.length cap] 24)) := ((Below.refl _ W).alloc (Nat.le_refl _) _).alloc (by simp) _
  have hJ2 : J [] ((W.alloc (.cells #[.func (.yield l) #[] #[]] 76)).alloc (.cells #[.slice (some ⟨b, off, none⟩) ps.length cap] 24)) := hJ.alloc _ (hJ.alloc _ h0)
  have hs2 : ((W.alloc (.cells #[.func (.yield l) #[] #[]] 76)).alloc (.cells #[.slice (some ⟨b, off, none⟩) ps.length cap] 24)).heap.size = W.heap.size + 2 := by simp
  simp only [World.size_alloc] at hbox
  obtain ⟨w2, hw2⟩ : ∃ w2, (W.alloc (.cells #[.func (.yield l) #[] #[]] 76)).alloc (.cells #[.slice (some ⟨b, off, none⟩) ps.length cap] 24) = w2 := ⟨_, rfl⟩
  rw [hw2] at hbox z2 z3 z4 zy hB2 hJ2 hs2 ⊢
  clear hw2 y1 y2 y3 y4 yy c1
  have hw2 : Below w.heap.size w w2 := hW.trans (hB2.mono hsz)
  have hno2 : ∀ j, j < low → ¬ Ow w2 j := fun j hj q => by have := hno w2 hw2 j q; omega
  have hny : ¬ Ow w2 W.heap.size := fun q => by
    have h1 := hon W w2 none hsz ⟨hB2.os, hB2.tape, hB2.output, hB2.size, fun k hk _ => hB2.block k hk⟩ (fun r e => by cases e) _ q
    have := hin W hW _ h1
    omega
  have hput : ∀ (V : World) (k : Nat) (o o' : Obj), w2.heap.size ≤ k → V.heap[k]? = some o → o.isCells = false → o.isWalk = false → KpO Ow V (V.putObj k o') := fun V k ob o' hk hl hcc _ => by
    have hlt := (Array.getElem?_eq_some_iff.1 hl).1
    have hh : ∀ j, Ow (V.putObj k o') j → Ow V j := hon V _ (some k) (by omega) (grownBy_putObj' V k o') (fun r e => by cases e; omega)
    refine ⟨by simp, fun _ j cc ty fr hn hcell => ?_, fun hV j hj => ?_⟩
    · rw [World.putObj_heap_other (fun e => by subst e; rw [hl] at hcell; cases hcell; simp [Obj.isCells] at hcc)]
      exact hcell
    · have := hh j hj
      exact ⟨.inl this, by simpa using hV j this⟩
  refine wpIn_rangeFunc_ownG rfl (by omega) (gf := 61) (lb := #[.pointer (some ⟨W.heap.size + 1, 0, none⟩)]) rfl trivial (enters_of Try.func61 (by kernel_rfl) rfl)
    (miles_stopsB (m - 1) (by omega) (W.heap.size + 1) b off cap ps hv w2 Ow (fun V o j hV hj => hon V _ none (by omega) (World.grownBy_alloc V o none) (fun r e => by cases e) j hj)
      (fun V hV => hin V (hw2.trans (hV.mono hw2.size))) (fun V hV q => by have := hno V (hw2.trans (hV.mono hw2.size)) b q; omega) (by omega) hbox.cell (by omega)
      (fun i hi => ⟨(hw2.cell (p := ⟨b, off + i * 2, none⟩) (by show b < _; omega)).trans (hc i hi).1, (hw2.cell (p := ⟨b, off + i * 2 + 1, none⟩) (by show b < _; omega)).trans (hc i hi).2⟩))
    KpO.trans hput (Below.refl _ _) (fun _ => rfl)
    (SoldI Ow p2 p3 p4 W.heap.size l f t o J)
    (fun _ _ _ => False)
    (SoldI.own hon hJ _ (by omega) (by omega) (fun pre V h => by have := h.by'.lt; omega))
    (fun _ _ _ _ _ hs _ _ => hs)
    ⟨hJ2, hin w2 hw2, hno2 _ q2, hno2 _ q3, hno2 _ q4, hny, z2, z3, z4, zy⟩
    (fun x => { tmps := #[.func (.yield l) #[] #[], .pointer (some ⟨p1, 0, none⟩), .pointer (some ⟨p2, 0, none⟩), .pointer (some ⟨p3, 0, none⟩), .pointer (some ⟨p4, 0, none⟩), .pointer (some ⟨W.heap.size, 0, none⟩), .int .i64 x.1, .int .i64 x.2, undef,
      .slice (some ⟨b, off, none⟩) ps.length cap, .func (.func 61) #[] #[.pointer (some ⟨W.heap.size + 1, 0, none⟩)], .int .i64 x.1, .int .i64 x.2, undef, undef, undef, undef, undef, undef, undef, undef, undef, undef, undef, undef, undef, undef, undef], defers := [] }) ?assign ?body ?done ?stop
  case assign =>
    intro l2 x V K hK
    dsimp only [encM]
    gi_wp2
    exact hK
  case body =>
    rintro l2 pre x V hI hlen
    have d2 := hI.b2.cell
    have d3 := hI.b3.cell
    have d4 := hI.b4.cell
    have dy := hI.by'.cell
    obtain ⟨fn, tm, asg, bdy, hyy, hR⟩ := yield_depth (m := m - 1 - 1 - 1) (hY (pre.map (soldOne f t o)) (soldOne f t o x) V hI.j (by simpa [upto_len] using hlen))
    have Hnext : Hid (∀ (e : Ending) (W' : World), Round Ow l (J (pre.map (soldOne f t o) ++ [soldOne f t o x])) V e W' → e = .returned (.bool true) ∧ KeepsFrom w2.heap.size V W' ∧ KpO Ow V W' ∧ SoldI Ow p2 p3 p4 W.heap.size l f t o J (pre ++ [x]) W') := hideIt (fun e W' h => by
      obtain ⟨r1, r2, r3, r4⟩ := h
      refine ⟨r1, ⟨r4.size, fun k ob hk => r4.same k ob (by omega)⟩, r3, hI.next r3 (by rw [List.map_append]; exact r2)⟩)
    have hx1 : (soldOne f t o x).1 = x.1 := rfl
    clear hno2 hny hput hin hno hon hc hY hW hB2 hJ2 hbox z2 z3 z4 zy
    by_cases hA : f ≤ (x.1 : Int)
    · by_cases hB : (x.1 : Int) < t
      · have hs : soldOne f t o x = (x.1, o) := by unfold soldOne; rw [if_pos ⟨hA, hB⟩]
        rw [hs] at hyy
        dsimp only [encM] at hyy
        clear hs hx1
        gi_wp2
        refine ⟨fun _ => by omega, RoundIn.mono (F := Fence.wide.inRound l2) hR ?_⟩
        rintro e W' hr
        obtain ⟨rfl, g1, g2, g3⟩ := Hnext.out e W' hr
        gi_wp2
        exact ⟨g1, g2, g3⟩
      · have hs : soldOne f t o x = x := by unfold soldOne; rw [if_neg (fun q => hB q.2)]
        rw [hs] at hyy
        dsimp only [encM] at hyy
        clear hs hx1
        gi_wp2
        refine ⟨fun _ => by omega, RoundIn.mono (F := Fence.wide.inRound l2) hR ?_⟩
        rintro e W' hr
        obtain ⟨rfl, g1, g2, g3⟩ := Hnext.out e W' hr
        gi_wp2
        exact ⟨g1, g2, g3⟩
    · have hs : soldOne f t o x = x := by unfold soldOne; rw [if_neg (fun q => hA q.1)]
      rw [hs] at hyy
      dsimp only [encM] at hyy
      clear hs hx1
      gi_wp2
      refine ⟨fun _ => by omega, RoundIn.mono (F := Fence.wide.inRound l2) hR ?_⟩
      rintro e W' hr
      obtain ⟨rfl, g1, g2, g3⟩ := Hnext.out e W' hr
      gi_wp2
      exact ⟨g1, g2, g3⟩
  case done =>
    rintro D ys V hD rfl hI hK
    gi_wp2
    refine ⟨by simp, .inl ⟨_, _, rfl, run_takeDeferred hK, ?_⟩⟩
    exact ⟨_, results_none rfl _ _ _, ⟨_, rfl⟩, hJ.putObj _ hI.j (by omega) hK rfl⟩
  case stop =>
    rintro D cc pre V _ _ h _
    exact h.elim
theorem sold_iter (p1 p2 p3 p4 b off cap : Nat) (ps : List (Int × Int)) (hv : partsValid ps = true) (f t o : Int) (w : World) (hb : b < w.heap.size)
    (x1 : Boxed w p1 24 (.slice (some ⟨b, off, none⟩) ps.length cap)) (x2 : Boxed w p2 3 (.int .i64 f)) (x3 : Boxed w p3 3 (.int .i64 t)) (x4 : Boxed w p4 3 (.int .i64 o))
    (hc : ∀ i, i < ps.length → w.cell? ⟨b, off + i * 2, none⟩ = some (.int .i64 (a2 ps i)) ∧ w.cell? ⟨b, off + i * 2 + 1, none⟩ = some (.int .i64 (b2 ps i))) :
    IterG 60 #[.pointer (some ⟨p1, 0, none⟩), .pointer (some ⟨p2, 0, none⟩), .pointer (some ⟨p3, 0, none⟩), .pointer (some ⟨p4, 0, none⟩)] w ((upto (mileAt ps) (owners ps).length).map (soldOne f t o)) := fun w0 Ow hw hOw hon hge =>
  sold_goes 5 (by omega) p1 p2 p3 p4 b off cap ps hv f t o w.heap.size w0 Ow hon hOw.inn (fun W hW j hj => hge j (hOw.here W j hW hj)) ⟨x1.lt, x2.lt, x3.lt, x4.lt, hb⟩ hw.size
    (boxed_below x1 hw x1.lt) (boxed_below x2 hw x2.lt) (boxed_below x3 hw x3.lt) (boxed_below x4 hw x4.lt)
    (fun i hi => ⟨(hw.cell (p := ⟨b, off + i * 2, none⟩) hb).trans (hc i hi).1, (hw.cell (p := ⟨b, off + i * 2 + 1, none⟩) hb).trans (hc i hi).2⟩)
end Go.Proofs.Ytfnpkbfgemcbaaa

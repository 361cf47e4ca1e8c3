/- Walks: the plain parts of whatever iterator; PartsPlain of the program. -/
import Derived.Test.YtfnpkbfgemcbaaaPa7
import Derived.Test.YtfnpkbfgemcbaaaPa10
import Derived.Maps.OwnIn
namespace Go.Proofs.Ytfnpkbfgemcbaaa
open Go.RowKit Go.Shelf
attribute [local go_sem] Oper.semAt_some

/-- a function value that, behind w, goes over seq -/
def IterK (gf : Nat) (lb : Array Value) (w : World) (seq : List (Nat × Int)) : Prop :=
  ∀ (w0 : World) (Ow : World → Nat → Prop), Below w.heap.size w w0 → OwOk Ow w0 → (∀ j, Ow w0 j → w.heap.size ≤ j) →
    ∃ Sp N, N ≤ 1188 ∧ SeqStopsK Fence.wide 5 Try.prog gf lb encM (KpO Ow) (fun ys => ys = seq) Sp N w0

/-- the blocks of the variable at block B and of the slice that it holds -/
def OwVar (B : Nat) (W : World) (j : Nat) : Prop := j = B ∨ ∃ v, W.cell? ⟨B, 0, none⟩ = some v ∧ v.ownBlock = some j

theorem owVar_ok {B t : Nat} {v : Value} {w0 : World} (hb : Boxed w0 B t v) (hv : ∀ k, v.ownBlock = some k → k < w0.heap.size) : OwOk (OwVar B) w0 := by
  have hlt := hb.lt
  refine ⟨fun W o j hW hj => ?_, fun W hW j hj => ?_, fun W j hW hj => ?_⟩
  · rcases hj with rfl | ⟨u, hu, hj⟩
    · exact .inl rfl
    · exact .inr ⟨u, by rw [World.cell?_alloc_lt W o _ (by show B < _; omega)] at hu; exact hu, hj⟩
  · have hc := (hW.cell (p := ⟨B, 0, none⟩) hlt).trans hb.cell
    have hs := hW.size
    rcases hj with rfl | ⟨u, hu, hj⟩
    · omega
    · rw [hc] at hu
      cases hu
      have := hv j hj
      omega
  · have hc := hW.cell (p := ⟨B, 0, none⟩) hlt
    rcases hj with rfl | ⟨u, hu, hj⟩
    · exact .inl rfl
    · exact .inr ⟨u, by rw [← hc]; exact hu, hj⟩
theorem owVar_put {B C : Nat} (hB : B < C) (W : World) (l : Nat) (o' : Obj) (j : Nat) (hl : C ≤ l) (h : OwVar B (W.putObj l o') j) : OwVar B W j := by
  rcases h with rfl | ⟨u, hu, hj⟩
  · exact .inl rfl
  · refine .inr ⟨u, ?_, hj⟩
    rw [World.cell?_of_block (a := ⟨B, 0, none⟩) (World.putObj_heap_other (show B ≠ l by omega))] at hu
    exact hu
theorem own_ownFrom {C base t size n : Nat} {v : Value} {xs : List Value} {W W' : World} {row : Option Nat} (h : W.ownsRow base t size v n xs) (hg : W.grownBy W' row) (hr : ∀ r, row = some r → C ≤ r ∧ ∃ o : Obj, W.heap[r]? = some o ∧ o.isCells = false) : W'.ownsRow base t size v n xs := by
  refine h.kept hg ?_
  rcases h.2 with ⟨rfl, _⟩ | ⟨g, cap, cur, rfl, _, hh, _⟩
  · exact .inl rfl
  · right
    intro e
    obtain ⟨_, o, ho, hc⟩ := hr g (by rw [← e]; rfl)
    rw [hh] at ho
    cases ho
    simp [Obj.isCells] at hc

theorem own_cells {w : World} {base t size n : Nat} {v : Value} {xs : List Value} (h : w.ownsRow base t size v n xs) : ∀ (j : Nat) (o : Obj), v.ownBlock = some j → w.heap[j]? = some o → o.isCells = true := by
  intro j o hj ho
  rcases h.2 with ⟨rfl, _⟩ | ⟨g, cap, cur, rfl, _, hh, _⟩
  · cases hj
  · cases hj
    rw [hh] at ho
    cases ho
    rfl
theorem kpo_var {W W1 : World} {B t : Nat} {v v' : Value} {tmp : Obj} (hbx : Boxed W B t v) (hvb : v.ownBlock ≠ some B) (hg : (W.alloc tmp).grownBy W1 v.ownBlock)
    (hat : v'.ownBlock = v.ownBlock ∨ v'.ownBlock = some (W.alloc tmp).heap.size) (hlt' : ∀ k, v'.ownBlock = some k → k < W1.heap.size) : KpO (OwVar B) W (W1.setCell ⟨B, 0, none⟩ v') := by
  have hs := hg.size
  have hB := hbx.lt
  rw [World.size_alloc] at hs
  refine ⟨by rw [World.size_setCell]; omega, fun _ j c t f hn hc => ?_, fun _ j hj => ?_⟩
  · have hlt : j < W.heap.size := (Array.getElem?_eq_some_iff.1 hc).1
    rw [Below.heap_setCell _ _ _ _ (fun e => hn (.inl e)), hg.block j (by rw [World.size_alloc]; omega) (fun e => hn (.inr ⟨v, hbx.cell, e.symm⟩)), Below.heap_alloc _ _ _ hlt]
    exact hc
  · have hb1 := (hbx.alloc tmp).kept hg (fun e => hvb e.symm)
    have hc := (boxed_set hb1 v').cell
    rw [World.size_setCell]
    rcases hj with rfl | ⟨u, hu, hj⟩
    · exact ⟨.inl (.inl rfl), by omega⟩
    · rw [hc] at hu
      cases hu
      refine ⟨?_, hlt' j hj⟩
      rcases hat with h | h
      · exact .inl (.inr ⟨v, hbx.cell, by rw [← h]; exact hj⟩)
      · rw [h] at hj
        cases hj
        right
        rw [World.size_alloc]
        omega
theorem kpo_row {W : World} {B t g : Nat} {v : Value} (hbx : Boxed W B t v) (hv : v.ownBlock = some g) (hgB : g ≠ B) (i : Nat) (u : Value) : KpO (OwVar B) W (W.setCell ⟨g, i, none⟩ u) := by
  have hB := hbx.lt
  have hc := (boxed_far hbx (p := ⟨g, i, none⟩) (fun e => hgB e.symm) u).cell
  refine ⟨by simp, fun _ j c t f hn hcc => ?_, fun hW j hj => ?_⟩
  · rw [Below.heap_setCell _ _ _ _ (fun e => hn (.inr ⟨v, hbx.cell, by rw [hv]; exact congrArg some e.symm⟩))]
    exact hcc
  · rcases hj with rfl | ⟨u', hu, hj⟩
    · exact ⟨.inl (.inl rfl), by simpa using hB⟩
    · rw [hc] at hu
      cases hu
      have : OwVar B W j := .inr ⟨v, hbx.cell, hj⟩
      exact ⟨.inl this, by simpa using hW j this⟩

/-- what the variable of plainOf holds when pre has come -/
def PlI (w : World) (pre : List (Nat × Int)) (W : World) : Prop :=
  ∃ v L, Boxed W (w.heap.size + 1) 24 v ∧ (plain (pre.map (·.2))).length = L ∧ W.ownsRow w.heap.size 38 2 v L (fl2 (plain (pre.map (·.2)))) ∧ v.ownBlock ≠ some (w.heap.size + 1) ∧ Below w.heap.size w W

def plainIf (os : List Int) : List (Int × Int) := if partsValid (plain os) = true then plain os else []

set_option maxRecDepth 100000 in
set_option maxHeartbeats 4000000 in
theorem plainOf_any (gf : Nat) (lb : Array Value) (eg : ∀ args w, (callFunc gf args).run Try.prog w = .ok (.enter gf args) w) (seq : List (Nat × Int)) (os : List Int) (hos : os = seq.map (·.2)) (hlo : os.length ≤ 1188) (w : World) (hit : IterK gf lb w seq) :
    Calls Try.prog 42 #[.func (.func gf) #[] lb] w (RetSB w 38 2 (plainIf os).length (fl2 (plainIf os)) (partsValid (plain os))) := by
  obtain ⟨i0, hi, hz0, hz1, hz2⟩ := info_parts info_Part
  refine (callsIn_wide (n := 6)).1 ?_
  refine callsIn_of_wp_marks Try.func42 rfl trivial ?_ rfl
  simp only [Try.ntmps42, List.size_toArray, List.length_cons, List.length_nil, Nat.reduceAdd, Nat.reduceSub, Array.replicate_succ, Array.replicate_zero, List.push_toArray, List.append_toArray, List.nil_append, List.cons_append]
  have Hos := hideIt hos
  clear hos
  gi_wp2_with fail
  have q4 : Boxed ((w.alloc (.cells #[] 38)).alloc (.cells #[.slice (some ⟨w.heap.size, 0, none⟩) 0 0] 24)) (w.heap.size + 1) 24 (.slice (some ⟨w.heap.size, 0, none⟩) 0 0) := by
    have := Boxed.new (w.alloc (.cells #[] 38)) 24 (.slice (some ⟨w.heap.size, 0, none⟩) 0 0)
    simpa using this
  have ho0 := (own_empty w 38 2).alloc (.cells #[.slice (some ⟨w.heap.size, 0, none⟩) 0 0] 24)
  have hB0 : Below w.heap.size w ((w.alloc (.cells #[] 38)).alloc (.cells #[.slice (some ⟨w.heap.size, 0, none⟩) 0 0] 24)) := ((Below.refl _ w).alloc (Nat.le_refl _) _).alloc (by simp) _
  have hz0' : ((w.alloc (.cells #[] 38)).alloc (.cells #[.slice (some ⟨w.heap.size, 0, none⟩) 0 0] 24)).heap.size = w.heap.size + 2 := by simp
  obtain ⟨w0, hw0⟩ : ∃ w0, (w.alloc (.cells #[] 38)).alloc (.cells #[.slice (some ⟨w.heap.size, 0, none⟩) 0 0] 24) = w0 := ⟨_, rfl⟩
  rw [hw0] at q4 ho0 hB0 hz0' ⊢
  clear hw0
  have hOw := owVar_ok q4 (by intro k hk; cases hk; show w.heap.size < w0.heap.size; omega)
  obtain ⟨Sp, N, hN, hseq⟩ := hit w0 (OwVar (w.heap.size + 1)) hB0 hOw (by
    intro j hj
    rcases hj with rfl | ⟨u, hu, hj⟩
    · omega
    · rw [q4.cell] at hu
      cases hu
      cases hj
      exact Nat.le_refl _)
  refine wpIn_rangeFunc_ownG rfl (by omega) (gf := gf) (lb := lb) rfl trivial eg hseq
    KpO.trans (fun W l o o' hB hl hco _ => KpO.put (B := w0.heap.size) (fun W l o' j hl h => owVar_put (by omega) W l o' j hl h) W l o o' hB hl hco) (Below.refl _ _) (fun _ => rfl)
    (PlI w)
    (fun _ _ _ => False)
    (fun s W W' row hs hg hr => by
      obtain ⟨v, L, e1, e2, e3, e4, e5⟩ := hs
      exact ⟨v, L, boxed_ownFrom w0.heap.size _ _ (fun _ => _) s W W' row e1 hg hr, e2, own_ownFrom e3 hg hr, e4, ownFrom_below (Nat.le_refl _) hB0.size s W W' row e5 hg hr⟩)
    (fun _ _ _ _ _ hs _ _ => hs)
    ⟨_, 0, q4, rfl, ho0, by simp [Value.ownBlock], hB0⟩
    (fun x => { tmps := #[.func (.func gf) #[] lb, undef, .slice none 0 0, .bool false, .pointer (some ⟨w.heap.size + 1, 0, none⟩), undef, .int .i64 x.2, undef, .slice (some ⟨w.heap.size, 0, none⟩) 0 0, .func (.func gf) #[] lb, .int .i64 x.1, .int .i64 x.2,
      undef, undef, undef, undef, undef, undef, undef, undef, undef, undef, undef, undef, undef, undef, undef, undef, undef, undef, undef, undef, undef, undef, undef, undef, undef, undef, undef, undef, undef, undef, undef, undef], defers := [] }) ?assign ?body ?done ?stop
  case assign =>
    intro l x W K hK
    dsimp only [encM]
    gi_wp2
    exact hK
  case body =>
    rintro l pre x W ⟨v, L, hbx, hL, hrow, hvb, hB⟩ hlen
    have hpl : PlIn (pre.length : Int) (plain (pre.map (·.2))) := by have := PlIn.plain (pre.map (·.2)); simpa using this
    have hLn : L ≤ 1188 := by have := hpl.1; omega
    have Hsn := hideIt (show plain ((pre ++ [x]).map (·.2)) = plainStep (plain (pre.map (·.2))) x.2 by rw [List.map_append]; exact plain_snoc _ _)
    have c4 := hbx.cell
    have g4 := hbx.frozen
    obtain ⟨A', c', rfl⟩ := own_form hrow
    have HL := hideIt hL
    clear hL
    cases L with
    | zero =>
      have Hnew := hideIt (plainStep_new (plain (pre.map (·.2))) x.2 (.inl HL.out))
      gi_wp2_with (gi_at_builtin; refine wpListIn_append_own_at _ rfl (.tmp 34) (.tmp 37) 24 rfl w.heap.size 38 i0 _ 2 16 Try.underlying24 hi hz0 hz1 hz2 rfl (by decide) _ _ _ rfl (hrow.alloc _) ⟨W.heap.size, 0, none⟩ 1 1 [.int .i64 x.2, .int .i64 1] rfl rfl (cell_two_new _ _ _ _) (by simp [Value.oneCell']) (by unfold maxLen; omega) (by omega) (by have := hB.size; simp; omega) ?_; intro v' w1 hown' hgrow hnn hat; clear hnn; obtain ⟨A2, c2, rfl⟩ := own_form hown'; have hb1 := (hbx.alloc (.cells #[.int .i64 x.2, .int .i64 1] 38)).kept hgrow (fun e => hvb e.symm); have c4' := hb1.cell; have g4' := hb1.frozen)
      have hvb' : (Value.slice A2 (0 + 1) c2).ownBlock ≠ some (w.heap.size + 1) := by
        rcases hat with h | h
        · rw [h]; exact hvb
        · rw [h]; intro e; have e1 := Option.some.inj e; rw [World.size_alloc] at e1; have := hbx.lt; omega
      refine ⟨(((KeepsOthers.alloc W _).trans (KeepsOthers.of_grownBy hgrow (own_cells (hrow.alloc _)))).trans (KeepsOthers.setCell _ _ _)).from _, kpo_var hbx hvb hgrow hat (fun k hk => (hown'.lt k hk).2), _, _, boxed_set hb1 _, by rw [Hsn.out, Hnew.out, List.length_append, HL.out], ?_, hvb', ((hB.alloc hB.size _).grown hgrow (Nat.le_trans hB.size (by simp)) (fun k hk => (hrow.lt k hk).1)).setCell (p := ⟨w.heap.size + 1, 0, none⟩) (by simp) _⟩
      rw [Hsn.out, Hnew.out, fl2_snoc]
      exact ownsRow_setCell_other hown' hvb' _
    | succ L =>
      have hLo : L < (plain (pre.map (·.2))).length := by rw [HL.out]; omega
      obtain ⟨g, rfl, hbg, hlg⟩ := own_some hrow (by omega)
      have hgB : g ≠ w.heap.size + 1 := fun e => hvb (by rw [e]; rfl)
      have hrc := row2_a hrow hLo
      obtain ⟨hca, hcb⟩ := hrc
      have hfr := fun j => hrow.frozenAt j
      by_cases he : a2 (plain (pre.map (·.2))) L = x.2
      · have he' : (a2 (plain (pre.map (·.2))) L == x.2) = true := by simp [he]
        have Hsame := hideIt (plainStep_same (plain (pre.map (·.2))) x.2 L HL.out he)
        have hb2 := hpl.2 L hLo
        have hst2 := row2_storeb hrow hLo (b2 (plain (pre.map (·.2))) L + 1)
        have hplen : pre.length ≤ 1188 := by omega
        clear he
        gi_wp2
        refine ⟨(KeepsOthers.setCell W ⟨g, L * 2 + 1, none⟩ _).from _, kpo_row hbx rfl hgB _ _, _, _, boxed_far hbx (p := ⟨g, L * 2 + 1, none⟩) (fun e => hgB e.symm) _, by rw [Hsn.out, Hsame.out, List.length_set, HL.out], ?_, hvb, hB.setCell (p := ⟨g, L * 2 + 1, none⟩) hbg _⟩
        rw [Hsn.out, Hsame.out]
        exact hst2
      · have he' : (a2 (plain (pre.map (·.2))) L == x.2) = false := by simp [he]
        have Hnew := hideIt (plainStep_new (plain (pre.map (·.2))) x.2 (.inr (by rw [HL.out]; exact he)))
        clear he
        gi_wp2_with (gi_at_builtin; refine wpListIn_append_own_at _ rfl (.tmp 34) (.tmp 37) 24 rfl w.heap.size 38 i0 _ 2 16 Try.underlying24 hi hz0 hz1 hz2 rfl (by decide) _ _ _ rfl (hrow.alloc _) ⟨W.heap.size, 0, none⟩ 1 1 [.int .i64 x.2, .int .i64 1] rfl rfl (cell_two_new _ _ _ _) (by simp [Value.oneCell']) (by unfold maxLen; omega) (by omega) (by have := hB.size; simp; omega) ?_; intro v' w1 hown' hgrow hnn hat; clear hnn; obtain ⟨A2, c2, rfl⟩ := own_form hown'; have hb1 := (hbx.alloc (.cells #[.int .i64 x.2, .int .i64 1] 38)).kept hgrow (fun e => hvb e.symm); have c4' := hb1.cell; have g4' := hb1.frozen)
        have hvb' : (Value.slice A2 (L + 1 + 1) c2).ownBlock ≠ some (w.heap.size + 1) := by
          rcases hat with h | h
          · rw [h]; exact hvb
          · rw [h]; intro e; have e1 := Option.some.inj e; rw [World.size_alloc] at e1; have := hbx.lt; omega
        refine ⟨(((KeepsOthers.alloc W _).trans (KeepsOthers.of_grownBy hgrow (own_cells (hrow.alloc _)))).trans (KeepsOthers.setCell _ _ _)).from _, kpo_var hbx hvb hgrow hat (fun k hk => (hown'.lt k hk).2), _, _, boxed_set hb1 _, by rw [Hsn.out, Hnew.out, List.length_append, HL.out], ?_, hvb', ((hB.alloc hB.size _).grown hgrow (Nat.le_trans hB.size (by simp)) (fun k hk => (hrow.lt k hk).1)).setCell (p := ⟨w.heap.size + 1, 0, none⟩) (by simp) _⟩
        rw [Hsn.out, Hnew.out, fl2_snoc]
        exact ownsRow_setCell_other hown' hvb' _
  case done =>
    rintro D ys W hD rfl ⟨v, L, hbx, hL, hrow, hvb, hB⟩ hK
    have hos := Hos.out
    rw [← hos] at hL hrow
    have c4 := hbx.cell
    obtain ⟨A', c', rfl⟩ := own_form hrow
    have hple : L ≤ 1048576 := by have := (PlIn.plain os).1; omega
    have hDlt : D < W.heap.size := (Array.getElem?_eq_some_iff.1 hK).1
    have hput : ∀ (X : World) (o' : Obj), X.heap[D]? = some (.deferred (some [])) → Below w.heap.size w X → Below w.heap.size w (X.putObj D o') := fun X o' hx hbx => hbx.trans (belowK_b (w := w0) hB0.size X D _ o' hD hx rfl rfl)
    cases hv : partsValid (plain os)
    · have Hv := hideIt hv
      have hpi : plainIf os = [] := by unfold plainIf; rw [hv]; rfl
      have Hpi := hideIt hpi
      clear hv hpi
      gi_wp2_with fail
      refine ⟨trivial, (callsIn_wide.2 (implPartsValid_any _ _ _ _ _ _ hL hple (Rd.of_own hrow) Hv.out)).mono ?_⟩
      rintro e w3 ⟨rfl, hb3⟩
      have hK3 := (hb3.block D hDlt).trans hK
      have hK4 := (Below.heap_alloc w3 (.cells #[] 38) D (Nat.lt_of_lt_of_le hDlt hb3.size)).trans hK3
      have hB3 := hB.trans (hb3.mono hB.size)
      gi_wp2
      refine ⟨by simp, .inl ⟨_, _, rfl, run_takeDeferred hK4, ?_⟩⟩
      rw [Hpi.out, Hv.out]
      exact ⟨_, results_tmp2 rfl _ _ _, _, _, rfl, own_ownFrom (C := 0) (own_base (own_empty w3 38 2) hB3.size) (grownBy_putObj' _ D _) (fun r e => by cases e; exact ⟨Nat.zero_le _, _, hK4, rfl⟩), hput _ _ hK4 (hB3.alloc hB3.size _)⟩
    · have Hv := hideIt hv
      have hpi : plainIf os = plain os := by unfold plainIf; rw [hv]; rfl
      have Hpi := hideIt hpi
      clear hv hpi
      gi_wp2_with fail
      refine ⟨trivial, (callsIn_wide.2 (implPartsValid_any _ _ _ _ _ _ hL hple (Rd.of_own hrow) Hv.out)).mono ?_⟩
      rintro e w3 ⟨rfl, hb3⟩
      have hbx3 := boxed_below hbx hb3 hbx.lt
      have c43 := hbx3.cell
      have hK3 := (hb3.block D hDlt).trans hK
      have hB3 := hB.trans (hb3.mono hB.size)
      gi_wp2
      refine ⟨by simp, .inl ⟨_, _, rfl, run_takeDeferred hK3, ?_⟩⟩
      rw [Hpi.out, hL, Hv.out]
      exact ⟨_, results_tmp2 rfl _ _ _, _, _, rfl, own_ownFrom (C := 0) (own_below hrow hb3 (Nat.le_refl _)) (grownBy_putObj' _ D _) (fun r e => by cases e; exact ⟨Nat.zero_le _, _, hK3, rfl⟩), hput _ _ hK3 hB3⟩
  case stop =>
    rintro D c pre W _ _ h _
    exact h.elim

theorem miles_iter (Bs b off cap : Nat) (ps : List (Int × Int)) (hv : partsValid ps = true) (w : World)
    (hBs : Bs < w.heap.size) (hBc : w.cell? ⟨Bs, 0, none⟩ = some (.slice (some ⟨b, off, none⟩) ps.length cap)) (hb : b < w.heap.size)
    (hc : ∀ i, i < ps.length → w.cell? ⟨b, off + i * 2, none⟩ = some (.int .i64 (a2 ps i)) ∧ w.cell? ⟨b, off + i * 2 + 1, none⟩ = some (.int .i64 (b2 ps i))) :
    IterK 61 #[.pointer (some ⟨Bs, 0, none⟩)] w (upto (mileAt ps) (owners ps).length) := fun w0 Ow hw hOw hge => by
  have hsz := hw.size
  exact ⟨_, _, owners_le hv, miles_stops 5 (by omega) Bs b off cap ps hv w0 Ow hOw (by omega) ((hw.cell (p := ⟨Bs, 0, none⟩) hBs).trans hBc) (by omega)
    (fun i hi => ⟨(hw.cell (p := ⟨b, off + i * 2, none⟩) hb).trans (hc i hi).1, (hw.cell (p := ⟨b, off + i * 2 + 1, none⟩) hb).trans (hc i hi).2⟩) (fun h => by have := hge b h; omega)⟩
theorem miles_snd (ps : List (Int × Int)) : (upto (mileAt ps) (owners ps).length).map (·.2) = owners ps := by
  apply List.ext_getElem
  · simp [upto]
  · intro i h1 h2
    simp [upto, mileAt, h2]

set_option maxHeartbeats 1000000 in
theorem implPartsPlain_any (A : Option Addr) (ps : List (Int × Int)) (n cap : Nat) (w : World) (hl : ps.length = n) (hn : n ≤ 1048576) (hr : Rd w A (fl2 ps)) :
    Calls Try.prog 17 #[.slice A n cap] w (RetSB w 38 2 (partsPlain ps).length (fl2 (partsPlain ps)) (plainOk ps)) := by
  cases hv : partsValid ps
  · have Hv := hideIt hv
    clear hv
    have hp : plainOk ps = false := by rw [plainOk, Hv.out]; rfl
    have hq : partsPlain ps = [] := by rw [partsPlain, hp]; rfl
    rw [hp, hq]
    clear hp hq
    go_enter Try.func17, Try.ntmps17
    go_wp2_with fail
    refine (implPartsValid_any _ _ _ _ _ _ hl hn hr Hv.out).mono ?_
    rintro e w1 ⟨rfl, hb1⟩
    go_wp2
    go_ret2
    exact ⟨_, _, rfl, own_base (own_empty w1 38 2) hb1.size, hb1.alloc hb1.size _⟩
  · have Hv := hideIt hv
    clear hv
    have hp : plainOk ps = partsValid (plain (owners ps)) := by rw [plainOk, Hv.out]; rfl
    have hq : partsPlain ps = plainIf (owners ps) := by rw [partsPlain, plainIf, hp]
    rw [hp, hq]
    clear hp hq
    have hn1 := (partsValid_len Hv.out).1
    subst hl
    obtain ⟨b, off, rfl, hb, hc⟩ := hr.at2 hn1
    go_enter Try.func17, Try.ntmps17
    go_wp2_with fail
    refine (implPartsValid_any _ _ _ _ _ _ rfl hn hr Hv.out).mono ?_
    rintro e w1 ⟨rfl, hb1⟩
    go_wp2_with fail
    refine (milesOf_any _ _ _ _).mono ?_
    rintro e w2 ⟨rfl, rfl⟩
    have hB1 := hb1.alloc hb1.size (.cells #[.slice (some ⟨b, off, none⟩) ps.length cap] 24)
    go_wp2_with fail
    refine (plainOf_any 61 _ (enters_of Try.func61 (by kernel_rfl) rfl) _ (owners ps) (miles_snd ps).symm (owners_le Hv.out) _
      (miles_iter w1.heap.size b off cap ps Hv.out _ (by simp) (Boxed.new w1 24 (.slice (some ⟨b, off, none⟩) ps.length cap)).cell (by have := hB1.size; omega)
        (fun i hi => ⟨(hB1.cell (p := ⟨b, off + i * 2, none⟩) hb).trans (hc i hi).1, (hB1.cell (p := ⟨b, off + i * 2 + 1, none⟩) hb).trans (hc i hi).2⟩))).mono ?_
    rintro e w3 ⟨A3, c3, rfl, ho3, hb3⟩
    go_wp2
    go_ret2
    exact ⟨_, _, rfl, own_base ho3 hB1.size, hB1.trans (hb3.mono hB1.size)⟩
end Go.Proofs.Ytfnpkbfgemcbaaa

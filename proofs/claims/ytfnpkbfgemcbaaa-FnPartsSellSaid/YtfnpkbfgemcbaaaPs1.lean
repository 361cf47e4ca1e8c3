/- Walks: the plain parts of an iterator that is never left. -/
import Derived.Test.YtfnpkbfgemcbaaaPa11
import Derived.Test.YtfnpkbfgemcbaaaGoes
namespace Go.Proofs.Ytfnpkbfgemcbaaa
open Go.RowKit Go.Shelf
attribute [local go_sem] Oper.semAt_some

/-- ownership is not begun by new blocks, nor by what turns one from B on -/
def OwOn (B : Nat) (Ow : World → Nat → Prop) : Prop :=
  ∀ (W W' : World) (row : Option Nat), B ≤ W.heap.size → W.grownBy W' row → (∀ r, row = some r → B ≤ r) → ∀ j, Ow W' j → Ow W j
theorem owVar_on {B C : Nat} (h : B < C) : OwOn C (OwVar B) := fun W W' row hW hg hr j hj => by
  rcases hj with rfl | ⟨u, hu, hj⟩
  · exact .inl rfl
  · refine .inr ⟨u, ?_, hj⟩
    rw [World.cell?_of_block (a := ⟨B, 0, none⟩) (hg.block B (by omega) (fun e => by have := hr B e.symm; omega))] at hu
    exact hu
/-- a function value that, behind w, goes over seq -/
def IterG (gf : Nat) (lb : Array Value) (w : World) (seq : List (Nat × Int)) : Prop :=
  ∀ (w0 : World) (Ow : World → Nat → Prop), Below w.heap.size w w0 → OwOk Ow w0 → OwOn w0.heap.size Ow → (∀ j, Ow w0 j → w.heap.size ≤ j) → Goes 5 gf lb Ow seq w0
set_option maxRecDepth 100000 in
set_option maxHeartbeats 4000000 in
theorem plainOf_goes (gf : Nat) (lb : Array Value) (eg : ∀ args w, (callFunc gf args).run Try.prog w = .ok (.enter gf args) w) (seq : List (Nat × Int)) (os : List Int) (hos : os = seq.map (·.2)) (hlo : os.length ≤ 1188) (w : World) (hsl : seq.length ≤ 1188) (hit : IterG gf lb w seq) :
    Calls Try.prog 42 #[.func (.func gf) #[] lb] w (RetSB w 38 2 (plainIf os).length (fl2 (plainIf os)) (partsValid (plain os))) := by
  obtain ⟨i0, hi, hz0, hz1, hz2⟩ := info_parts info_Part
  refine (callsIn_wide (n := 6)).1 ?_
  refine callsIn_of_wp_marks Try.func42 rfl trivial ?_ rfl
  simp only [Try.ntmps42, List.size_toArray, List.length_cons, List.length_nil, Nat.reduceAdd, Nat.reduceSub, Array.replicate_succ, Array.replicate_zero, List.push_toArray, List.append_toArray, List.nil_append, List.cons_append]
  have Hos := hideIt hos
  clear hos
  gi_wp2_with fail
  have q4 : Boxed ((w.alloc (.cells #[] 38)).alloc (.cells #[.slice (some ⟨w.heap.size, 0, none⟩) 0 0] 24)) (w.heap.size + 1) 24 (.slice (some ⟨w.heap.size, 0, none⟩) 0 0) := by
    have := Boxed.new (w.alloc (.cells #[] 38)) 24 (.slice (some ⟨w.heap.size, 0, none⟩) 0 0)
    simpa using this
  have ho0 := (own_empty w 38 2).alloc (.cells #[.slice (some ⟨w.heap.size, 0, none⟩) 0 0] 24)
  have hB0 : Below w.heap.size w ((w.alloc (.cells #[] 38)).alloc (.cells #[.slice (some ⟨w.heap.size, 0, none⟩) 0 0] 24)) := ((Below.refl _ w).alloc (Nat.le_refl _) _).alloc (by simp) _
  have hz0' : ((w.alloc (.cells #[] 38)).alloc (.cells #[.slice (some ⟨w.heap.size, 0, none⟩) 0 0] 24)).heap.size = w.heap.size + 2 := by simp
  obtain ⟨w0, hw0⟩ : ∃ w0, (w.alloc (.cells #[] 38)).alloc (.cells #[.slice (some ⟨w.heap.size, 0, none⟩) 0 0] 24) = w0 := ⟨_, rfl⟩
  rw [hw0] at q4 ho0 hB0 hz0' ⊢
  clear hw0
  have hOw := owVar_ok q4 (by intro k hk; cases hk; show w.heap.size < w0.heap.size; omega)
  have hseq := hit w0 (OwVar (w.heap.size + 1)) hB0 hOw (owVar_on (by omega)) (by
    intro j hj
    rcases hj with rfl | ⟨u, hu, hj⟩
    · omega
    · rw [q4.cell] at hu
      cases hu
      cases hj
      exact Nat.le_refl _)
  refine range_goes (gf := gf) (lb := lb) (by omega) rfl eg rfl hseq (Below.refl _ _) (fun W l o' j hl h => owVar_put (by omega) W l o' j hl h)
    (PlI w)
    (fun s W W' row hs hg hr => by
      obtain ⟨v, L, e1, e2, e3, e4, e5⟩ := hs
      exact ⟨v, L, boxed_ownFrom w0.heap.size _ _ (fun _ => _) s W W' row e1 hg hr, e2, own_ownFrom e3 hg hr, e4, ownFrom_below (Nat.le_refl _) hB0.size s W W' row e5 hg hr⟩)
    ⟨_, 0, q4, rfl, ho0, by simp [Value.ownBlock], hB0⟩
    (fun x => { tmps := #[.func (.func gf) #[] lb, undef, .slice none 0 0, .bool false, .pointer (some ⟨w.heap.size + 1, 0, none⟩), undef, .int .i64 x.2, undef, .slice (some ⟨w.heap.size, 0, none⟩) 0 0, .func (.func gf) #[] lb, .int .i64 x.1, .int .i64 x.2,
      undef, undef, undef, undef, undef, undef, undef, undef, undef, undef, undef, undef, undef, undef, undef, undef, undef, undef, undef, undef, undef, undef, undef, undef, undef, undef, undef, undef, undef, undef, undef, undef], defers := [] }) ?assign ?body ?done
  case assign =>
    intro l x W K hK
    dsimp only [encM]
    gi_wp2
    exact hK
  case body =>
    rintro l pre x W ⟨v, L, hbx, hL, hrow, hvb, hB⟩ hlen
    have hpl : PlIn (pre.length : Int) (plain (pre.map (·.2))) := by have := PlIn.plain (pre.map (·.2)); simpa using this
    have hLn : L ≤ 1188 := by have := hpl.1; omega
    have Hsn := hideIt (show plain ((pre ++ [x]).map (·.2)) = plainStep (plain (pre.map (·.2))) x.2 by rw [List.map_append]; exact plain_snoc _ _)
    have c4 := hbx.cell
    have g4 := hbx.frozen
    obtain ⟨A', c', rfl⟩ := own_form hrow
    have HL := hideIt hL
    clear hL
    cases L with
    | zero =>
      have Hnew := hideIt (plainStep_new (plain (pre.map (·.2))) x.2 (.inl HL.out))
      gi_wp2_with (gi_at_builtin; refine wpListIn_append_own_at _ rfl (.tmp 34) (.tmp 37) 24 rfl w.heap.size 38 i0 _ 2 16 Try.underlying24 hi hz0 hz1 hz2 rfl (by decide) _ _ _ rfl (hrow.alloc _) ⟨W.heap.size, 0, none⟩ 1 1 [.int .i64 x.2, .int .i64 1] rfl rfl (cell_two_new _ _ _ _) (by simp [Value.oneCell']) (by unfold maxLen; omega) (by omega) (by have := hB.size; simp; omega) ?_; intro v' w1 hown' hgrow hnn hat; clear hnn; obtain ⟨A2, c2, rfl⟩ := own_form hown'; have hb1 := (hbx.alloc (.cells #[.int .i64 x.2, .int .i64 1] 38)).kept hgrow (fun e => hvb e.symm); have c4' := hb1.cell; have g4' := hb1.frozen)
      have hvb' : (Value.slice A2 (0 + 1) c2).ownBlock ≠ some (w.heap.size + 1) := by
        rcases hat with h | h
        · rw [h]; exact hvb
        · rw [h]; intro e; have e1 := Option.some.inj e; rw [World.size_alloc] at e1; have := hbx.lt; omega
      refine ⟨(((KeepsOthers.alloc W _).trans (KeepsOthers.of_grownBy hgrow (own_cells (hrow.alloc _)))).trans (KeepsOthers.setCell _ _ _)).from _, kpo_var hbx hvb hgrow hat (fun k hk => (hown'.lt k hk).2), _, _, boxed_set hb1 _, by rw [Hsn.out, Hnew.out, List.length_append, HL.out], ?_, hvb', ((hB.alloc hB.size _).grown hgrow (Nat.le_trans hB.size (by simp)) (fun k hk => (hrow.lt k hk).1)).setCell (p := ⟨w.heap.size + 1, 0, none⟩) (by simp) _⟩
      rw [Hsn.out, Hnew.out, fl2_snoc]
      exact ownsRow_setCell_other hown' hvb' _
    | succ L =>
      have hLo : L < (plain (pre.map (·.2))).length := by rw [HL.out]; omega
      obtain ⟨g, rfl, hbg, hlg⟩ := own_some hrow (by omega)
      have hgB : g ≠ w.heap.size + 1 := fun e => hvb (by rw [e]; rfl)
      have hrc := row2_a hrow hLo
      obtain ⟨hca, hcb⟩ := hrc
      have hfr := fun j => hrow.frozenAt j
      by_cases he : a2 (plain (pre.map (·.2))) L = x.2
      · have he' : (a2 (plain (pre.map (·.2))) L == x.2) = true := by simp [he]
        have Hsame := hideIt (plainStep_same (plain (pre.map (·.2))) x.2 L HL.out he)
        have hb2 := hpl.2 L hLo
        have hst2 := row2_storeb hrow hLo (b2 (plain (pre.map (·.2))) L + 1)
        have hplen : pre.length ≤ 1188 := by omega
        clear he
        gi_wp2
        refine ⟨(KeepsOthers.setCell W ⟨g, L * 2 + 1, none⟩ _).from _, kpo_row hbx rfl hgB _ _, _, _, boxed_far hbx (p := ⟨g, L * 2 + 1, none⟩) (fun e => hgB e.symm) _, by rw [Hsn.out, Hsame.out, List.length_set, HL.out], ?_, hvb, hB.setCell (p := ⟨g, L * 2 + 1, none⟩) hbg _⟩
        rw [Hsn.out, Hsame.out]
        exact hst2
      · have he' : (a2 (plain (pre.map (·.2))) L == x.2) = false := by simp [he]
        have Hnew := hideIt (plainStep_new (plain (pre.map (·.2))) x.2 (.inr (by rw [HL.out]; exact he)))
        clear he
        gi_wp2_with (gi_at_builtin; refine wpListIn_append_own_at _ rfl (.tmp 34) (.tmp 37) 24 rfl w.heap.size 38 i0 _ 2 16 Try.underlying24 hi hz0 hz1 hz2 rfl (by decide) _ _ _ rfl (hrow.alloc _) ⟨W.heap.size, 0, none⟩ 1 1 [.int .i64 x.2, .int .i64 1] rfl rfl (cell_two_new _ _ _ _) (by simp [Value.oneCell']) (by unfold maxLen; omega) (by omega) (by have := hB.size; simp; omega) ?_; intro v' w1 hown' hgrow hnn hat; clear hnn; obtain ⟨A2, c2, rfl⟩ := own_form hown'; have hb1 := (hbx.alloc (.cells #[.int .i64 x.2, .int .i64 1] 38)).kept hgrow (fun e => hvb e.symm); have c4' := hb1.cell; have g4' := hb1.frozen)
        have hvb' : (Value.slice A2 (L + 1 + 1) c2).ownBlock ≠ some (w.heap.size + 1) := by
          rcases hat with h | h
          · rw [h]; exact hvb
          · rw [h]; intro e; have e1 := Option.some.inj e; rw [World.size_alloc] at e1; have := hbx.lt; omega
        refine ⟨(((KeepsOthers.alloc W _).trans (KeepsOthers.of_grownBy hgrow (own_cells (hrow.alloc _)))).trans (KeepsOthers.setCell _ _ _)).from _, kpo_var hbx hvb hgrow hat (fun k hk => (hown'.lt k hk).2), _, _, boxed_set hb1 _, by rw [Hsn.out, Hnew.out, List.length_append, HL.out], ?_, hvb', ((hB.alloc hB.size _).grown hgrow (Nat.le_trans hB.size (by simp)) (fun k hk => (hrow.lt k hk).1)).setCell (p := ⟨w.heap.size + 1, 0, none⟩) (by simp) _⟩
        rw [Hsn.out, Hnew.out, fl2_snoc]
        exact ownsRow_setCell_other hown' hvb' _
  case done =>
    rintro D W hD ⟨v, L, hbx, hL, hrow, hvb, hB⟩ hK
    have hos := Hos.out
    rw [← hos] at hL hrow
    have c4 := hbx.cell
    obtain ⟨A', c', rfl⟩ := own_form hrow
    have hple : L ≤ 1048576 := by have := (PlIn.plain os).1; omega
    have hDlt : D < W.heap.size := (Array.getElem?_eq_some_iff.1 hK).1
    have hput : ∀ (X : World) (o' : Obj), X.heap[D]? = some (.deferred (some [])) → Below w.heap.size w X → Below w.heap.size w (X.putObj D o') := fun X o' hx hbx => hbx.trans (belowK_b (w := w0) hB0.size X D _ o' hD hx rfl rfl)
    cases hv : partsValid (plain os)
    · have Hv := hideIt hv
      have hpi : plainIf os = [] := by unfold plainIf; rw [hv]; rfl
      have Hpi := hideIt hpi
      clear hv hpi
      gi_wp2_with fail
      refine ⟨trivial, (callsIn_wide.2 (implPartsValid_any _ _ _ _ _ _ hL hple (Rd.of_own hrow) Hv.out)).mono ?_⟩
      rintro e w3 ⟨rfl, hb3⟩
      have hK3 := (hb3.block D hDlt).trans hK
      have hK4 := (Below.heap_alloc w3 (.cells #[] 38) D (Nat.lt_of_lt_of_le hDlt hb3.size)).trans hK3
      have hB3 := hB.trans (hb3.mono hB.size)
      gi_wp2
      refine ⟨by simp, .inl ⟨_, _, rfl, run_takeDeferred hK4, ?_⟩⟩
      rw [Hpi.out, Hv.out]
      exact ⟨_, results_tmp2 rfl _ _ _, _, _, rfl, own_ownFrom (C := 0) (own_base (own_empty w3 38 2) hB3.size) (grownBy_putObj' _ D _) (fun r e => by cases e; exact ⟨Nat.zero_le _, _, hK4, rfl⟩), hput _ _ hK4 (hB3.alloc hB3.size _)⟩
    · have Hv := hideIt hv
      have hpi : plainIf os = plain os := by unfold plainIf; rw [hv]; rfl
      have Hpi := hideIt hpi
      clear hv hpi
      gi_wp2_with fail
      refine ⟨trivial, (callsIn_wide.2 (implPartsValid_any _ _ _ _ _ _ hL hple (Rd.of_own hrow) Hv.out)).mono ?_⟩
      rintro e w3 ⟨rfl, hb3⟩
      have hbx3 := boxed_below hbx hb3 hbx.lt
      have c43 := hbx3.cell
      have hK3 := (hb3.block D hDlt).trans hK
      have hB3 := hB.trans (hb3.mono hB.size)
      gi_wp2
      refine ⟨by simp, .inl ⟨_, _, rfl, run_takeDeferred hK3, ?_⟩⟩
      rw [Hpi.out, hL, Hv.out]
      exact ⟨_, results_tmp2 rfl _ _ _, _, _, rfl, own_ownFrom (C := 0) (own_below hrow hb3 (Nat.le_refl _)) (grownBy_putObj' _ D _) (fun r e => by cases e; exact ⟨Nat.zero_le _, _, hK3, rfl⟩), hput _ _ hK3 hB3⟩
end Go.Proofs.Ytfnpkbfgemcbaaa

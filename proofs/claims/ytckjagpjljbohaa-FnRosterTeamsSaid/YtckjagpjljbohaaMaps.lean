/- Maps of ints to ints, and maps of ints to such maps: what they hold, how they are read, written and ranged over. -/
import Derived.Test.YtckjagpjljbohaaProg
import Derived.Test.YtckjagpjljbohaaBase
import Derived.Maps.RangeWalk
import Derived.Maps.OwnSet
namespace Go.Proofs.Ytckjagpjljbohaa
open Go.RowKit Go.Maps

/-- an int of 64 bits -/
def IntOk (k : Int) : Prop := -9223372036854775808 ≤ k ∧ k ≤ 9223372036854775807
theorem IntOk.wf {k : Int} (h : IntOk k) : (Lit.int .i64 k).wf = true := by
  unfold IntOk at h
  simp [Lit.wf, IntKind.min, IntKind.max, IntKind.signed, IntKind.bits]; omega
theorem IntOk.of {k : Int} (h : (Lit.int .i64 k).wf = true) : IntOk k := by
  simp [Lit.wf, IntKind.min, IntKind.max, IntKind.signed, IntKind.bits] at h
  unfold IntOk; omega
theorem lawI : Keyed Try.prog 3 := int_keyed Try.underlying3
theorem zeroI (w : World) : (zeroValue 3).run Try.prog w = .ok (.int .i64 0) w := by kernel_rfl
theorem zeroM (w : World) : (zeroValue 37).run Try.prog w = .ok (.map none) w := by kernel_rfl
/-- what a map reads as: at each key a number that is not negative, or nothing -/
def Says (D : DataW Unit) (f : Int → Int) : Prop := ∀ k, IntOk k → (0 ≤ f k → has D (.int .i64 k) = true ∧ ∀ z, D.atKey (.int .i64 k) z = .lit (.int .i64 (f k))) ∧ (f k < 0 → has D (.int .i64 k) = false)
def IM (w : World) (b : Nat) (f : Int → Int) (N s : Nat) : Prop := ∃ D : DataW Unit, w.ownsMap Try.prog 3 (plainElem Try.prog 3) b N D ∧ size D = s ∧ Says D f
def updI (f : Int → Int) (k v : Int) : Int → Int := fun j => if j = k then v else f j
theorem updI_same (f : Int → Int) (k v : Int) : updI f k v k = v := if_pos rfl
theorem updI_ne (f : Int → Int) (v : Int) {j k : Int} (h : j ≠ k) : updI f k v j = f j := if_neg h
theorem Says.put {D : DataW Unit} {f : Int → Int} (h : Says D f) (hD : IsMap D) (k v : Int) (hv : 0 ≤ v) : Says (D.put (.int .i64 k) (.lit (.int .i64 v))) (updI f k v) := by
  intro j hj
  by_cases e : j = k
  · subst e
    rw [updI_same]
    exact ⟨fun _ => ⟨has_put_same (k := .int .i64 j) hD trivial _, fun z => atKey_put_same (k := .int .i64 j) hD trivial _ z⟩, fun h => by omega⟩
  · have hne : Lit.int .i64 j ≠ Lit.int .i64 k := fun h => e (by injection h)
    rw [updI_ne f v e, has_put_other hne]
    obtain ⟨h1, h2⟩ := h j hj
    exact ⟨fun g => ⟨(h1 g).1, fun z => by rw [atKey_put_other hne]; exact (h1 g).2 z⟩, h2⟩
theorem Says.congr {D : DataW Unit} {f g : Int → Int} (h : Says D f) (e : ∀ k, f k = g k) : Says D g := by
  have : f = g := funext e
  rw [← this]; exact h

section
variable {w w' : World} {b N s : Nat} {f : Int → Int}
theorem IM.new (w : World) : IM (w.alloc (.map #[] 0)) w.heap.size (fun _ => -1) 0 0 :=
  ⟨_, World.ownsMap_made w Try.prog 3 (plainElem Try.prog 3), rfl, fun _ _ => ⟨fun h => absurd (show (0 : Int) ≤ -1 from h) (by decide), fun _ => rfl⟩⟩
theorem IM.lt (h : IM w b f N s) : b < w.heap.size := by obtain ⟨D, h, _⟩ := h; exact h.lt
theorem IM.kept {row : Option Nat} (h : IM w b f N s) (hg : w.grownBy w' row) (hne : some b ≠ row) : IM w' b f N s := by
  obtain ⟨D, h, h1, h2⟩ := h
  exact ⟨D, h.kept hg hne, h1, h2⟩
theorem IM.below {B : Nat} (h : IM w b f N s) (hb : Below B w w') (hB : w.heap.size ≤ B) : IM w' b f N s := h.kept (grown_below hb hB none) (by simp)
theorem IM.alloc (h : IM w b f N s) (o : Obj) : IM (w.alloc o) b f N s := h.kept (World.grownBy_alloc w o none) (by simp)
theorem IM.drewN (h : IM w b f N s) (n : Nat) : IM (w.drewN n) b f N s := h
theorem IM.mono (h : IM w b f N s) {N' : Nat} (hn : N ≤ N') : IM w b f N' s := by
  obtain ⟨D, h, h1, h2⟩ := h
  exact ⟨D, h.mono hn, h1, h2⟩
theorem IM.congr {g : Int → Int} (h : IM w b f N s) (e : ∀ k, f k = g k) : IM w b g N s := by
  obtain ⟨D, h, h1, h2⟩ := h
  exact ⟨D, h, h1, h2.congr e⟩
theorem IM.size_le (h : IM w b f N s) : s ≤ N := by
  obtain ⟨D, h, h1, h2⟩ := h
  rw [← h1]; exact h.size_le
/-- v, ok := m[k] -/
theorem IM.yes (h : IM w b f N s) {k : Int} (hk : IntOk k) (hf : 0 ≤ f k) : (Instr.lookup 37 (.map (some b)) (.int .i64 k) true).run Try.prog w = .ok (.tuple #[.int .i64 (f k), .bool true]) w := by
  obtain ⟨D, h, _, h2⟩ := h
  obtain ⟨g1, g2⟩ := (h2 k hk).1 hf
  obtain ⟨v, ps, hrun, hv⟩ := h.look_ok lawI Try.underlying37 (zeroI w) (plainElem_int Try.underlying3 (by decide)) (keyOf_int_mk Try.underlying3 hk.wf)
  obtain ⟨c, rfl, hc, _⟩ := plainElem_int_inv Try.underlying3 hv
  have e1 := congrArg Prod.fst hc
  rw [g2] at e1
  simp only [DataW.lit.injEq, Lit.int.injEq, true_and] at e1
  rw [hrun, g1, e1]
theorem IM.no (h : IM w b f N s) {k : Int} (hk : IntOk k) (hf : f k < 0) : (Instr.lookup 37 (.map (some b)) (.int .i64 k) true).run Try.prog w = .ok (.tuple #[.int .i64 0, .bool false]) w := by
  obtain ⟨D, h, _, h2⟩ := h
  have g1 := (h2 k hk).2 hf
  obtain ⟨v, ps, hrun, hv⟩ := h.look_ok lawI Try.underlying37 (zeroI w) (plainElem_int Try.underlying3 (by decide)) (keyOf_int_mk Try.underlying3 hk.wf)
  obtain ⟨c, rfl, hc, _⟩ := plainElem_int_inv Try.underlying3 hv
  have e1 := congrArg Prod.fst hc
  rw [atKey_of_not_has g1] at e1
  simp only [DataW.lit.injEq, Lit.int.injEq, true_and] at e1
  rw [hrun, g1, ← e1]
/-- m[k] -/
theorem IM.get (h : IM w b f N s) {k : Int} (hk : IntOk k) (hf : 0 ≤ f k) : (Instr.lookup 37 (.map (some b)) (.int .i64 k) false).run Try.prog w = .ok (.int .i64 (f k)) w := by
  obtain ⟨D, h, _, h2⟩ := h
  obtain ⟨g1, g2⟩ := (h2 k hk).1 hf
  obtain ⟨v, ps, hrun, hv⟩ := h.lookup lawI Try.underlying37 (zeroI w) (plainElem_int Try.underlying3 (by decide)) (keyOf_int_mk Try.underlying3 hk.wf)
  obtain ⟨c, rfl, hc, _⟩ := plainElem_int_inv Try.underlying3 hv
  have e1 := congrArg Prod.fst hc
  rw [g2] at e1
  simp only [DataW.lit.injEq, Lit.int.injEq, true_and] at e1
  rw [hrun, e1]
theorem IM.len (h : IM w b f N s) (ty : TypeId) : (Builtin.len_ #[37] ty #[.map (some b)]).run Try.prog w = .ok (.int .i64 s) w := by
  obtain ⟨D, h, h1, _⟩ := h
  rw [← h1]; exact h.len Try.underlying37 ty
/-- m[k] = v -/
theorem IM.store (h : IM w b f N s) (hN : N < maxLen) {k v : Int} (hk : IntOk k) (hv : IntOk v) (h0 : 0 ≤ v) : ∃ w', (Instr.mapUpdate 37 (.map (some b)) (.int .i64 k) (.int .i64 v)).run Try.prog w = .ok () w' ∧ IM w' b (updI f k v) (N + 1) (if 0 ≤ f k then s else s + 1) ∧ w.grownBy w' (some b) := by
  obtain ⟨D, h, h1, h2⟩ := h
  obtain ⟨w', hrun, o, g⟩ := h.update lawI Try.underlying37 hN (keyOf_int_mk Try.underlying3 hk.wf) (plainElem_int (H := Unit) Try.underlying3 hv.wf)
  refine ⟨w', hrun, ⟨_, o, ?_, h2.put h.isMap k v h0⟩, g⟩
  rw [size_put (h.tidy lawI), h1]
  by_cases c : 0 ≤ f k
  · rw [if_pos c, if_pos ((h2 k hk).1 c).1]
  · rw [if_neg c, if_neg (by rw [(h2 k hk).2 (by omega)]; simp)]
end
theorem wpList_storeIM (w : World) {ops : Array Oper} {rest : List Oper} {o : Oper} {a : Act} {Q : Exit → Act → World → Prop}
    (hg : o.guard = none) (m x v : Operand) (hop : o.op = Op.mapUpdate 37 m x v) {b N s : Nat} {f : Int → Int} (hm : a.eval m = .map (some b)) (h : IM w b f N s) (hN : N < maxLen)
    (k val : Int) (hx : a.eval x = .int .i64 k) (hv : a.eval v = .int .i64 val) (hk : IntOk k) (hval : IntOk val) (h0 : 0 ≤ val)
    (hK : ∀ w', IM w' b (updI f k val) (N + 1) (if 0 ≤ f k then s else s + 1) → w.grownBy w' (some b) → wpList Try.prog ops Q rest (a.put o.dst undef) w') :
    wpList Try.prog ops Q (o :: rest) a w := by
  refine wpList_plain hg fun K' hK' => ?_
  obtain ⟨w', hrun, r1, r2⟩ := h.store hN hk hval h0
  unfold Oper.wp
  simp [execOp, hop, hm, hx, hv, hrun, Result.andThen]
  exact hK' _ _ (hK w' r1 r2)

/-- a range over a map is under way: left: the keys still to come -/
def RG (w : World) (b r : Nat) (f : Int → Int) (left : Int → Bool) (cnt : Nat) : Prop :=
  ∃ N D L, w.ranges Try.prog 3 (plainElem Try.prog 3) b r N D L cnt ∧ Says D f ∧ ∀ k, IntOk k → left k = L (.int .i64 k)
section
variable {w w' : World} {b r N s cnt : Nat} {f : Int → Int} {left : Int → Bool}
theorem RG.left_eq (h : RG w b r f left cnt) : w.rangeLeft b r = cnt := by obtain ⟨N, D, L, h, _⟩ := h; exact h.left_eq
theorem RG.kept {row : Option Nat} (h : RG w b r f left cnt) (hg : w.grownBy w' row) (h1 : some b ≠ row) (h2 : some r ≠ row) : RG w' b r f left cnt := by
  obtain ⟨N, D, L, h, g1, g2⟩ := h
  exact ⟨N, D, L, h.kept hg h1 h2, g1, g2⟩
theorem RG.below {B : Nat} (h : RG w b r f left cnt) (hb : Below B w w') (hB : w.heap.size ≤ B) : RG w' b r f left cnt := h.kept (grown_below hb hB none) (by simp) (by simp)
theorem RG.drewN (h : RG w b r f left cnt) (n : Nat) : RG (w.drewN n) b r f left cnt := h
theorem same_int (j k : Int) : (Lit.int .i64 j).sameKey (.int .i64 k) = decide (j = k) := by
  by_cases e : j = k
  · subst e
    rw [WideAt.sameKey_self (a := .int .i64 j) trivial, decide_eq_true rfl]
  · rw [sameKey_ne (fun h => e (by injection h)), decide_eq_false e]
end
theorem wpList_rangeIM (w : World) {ops : Array Oper} {rest : List Oper} {o : Oper} {a : Act} {Q : Exit → Act → World → Prop}
    (hg : o.guard = none) (m : Operand) (hop : o.op = Op.range 37 m) {b N s : Nat} {f : Int → Int} (hm : a.eval m = .map (some b)) (h : IM w b f N s)
    (hK : ∀ w', RG w' b w.heap.size f (fun k => decide (0 ≤ f k)) s → w.grownBy w' none → w'.heap.size = w.heap.size + 1 → wpList Try.prog ops Q rest (a.put o.dst (.pointer (some ⟨w.heap.size, 0, none⟩))) w') :
    wpList Try.prog ops Q (o :: rest) a w := by
  obtain ⟨D, h, h1, h2⟩ := h
  refine wpList_range_own w hg m 37 hop 3 3 lawI Try.underlying37 (plainElem Try.prog 3) b N D hm h (fun w' r1 r2 r3 => hK w' ⟨N, D, _, by rw [← h1]; exact r1, h2, fun k hk => ?_⟩ r2 r3)
  show decide (0 ≤ f k) = has D (.int .i64 k)
  by_cases c : 0 ≤ f k
  · rw [decide_eq_true c, ((h2 k hk).1 c).1]
  · rw [decide_eq_false c, (h2 k hk).2 (by omega)]
theorem wpList_nextIM (w : World) {ops : Array Oper} {rest : List Oper} {o : Oper} {a : Act} {Q : Exit → Act → World → Prop}
    (hg : o.guard = none) (it : Operand) (hop : o.op = Op.next it false) {b r cnt : Nat} {f : Int → Int} {left : Int → Bool} (hit : a.eval it = .pointer (some ⟨r, 0, none⟩)) (h : RG w b r f left cnt)
    (hDone : cnt = 0 → (∀ k, IntOk k → left k = false) → wpList Try.prog ops Q rest (a.put o.dst (.tuple #[.bool false])) w)
    (hMore : ∀ (x : Int) (w' : World) (cnt' : Nat), IntOk x → left x = true → 0 ≤ f x → IntOk (f x) → RG w' b r f (fun z => left z && !decide (z = x)) cnt' → cnt' < cnt → w.grownBy w' (some r) → w'.heap.size = w.heap.size →
      (Instr.entry (.pointer (some ⟨r, 0, none⟩))).run Try.prog w' = .ok (.tuple #[.int .i64 x, .int .i64 (f x)]) w' → wpList Try.prog ops Q rest (a.put o.dst (.tuple #[.bool true, .int .i64 x, .int .i64 (f x)])) w') :
    wpList Try.prog ops Q (o :: rest) a w := by
  obtain ⟨N, D, L, h, h1, h2⟩ := h
  refine wpList_next_ranges_ii w hg it hop 3 3 .i64 .i64 lawI Try.underlying3 Try.underlying3 b r N D L cnt hit h (fun c0 hl => hDone c0 (fun k hk => by rw [h2 k hk, hl])) ?_
  intro x c w' cnt' hwx hwc hlx hat hrg hlt hgr hsz hen
  have hx := IntOk.of hwx
  have hfx : 0 ≤ f x := Classical.byContradiction fun hn => by
    have h3 := (h1 x hx).2 (by omega)
    have h4 := atKey_of_not_has h3 .nil
    rw [hat] at h4
    cases h4
  have h5 := ((h1 x hx).1 hfx).2 .nil
  rw [hat] at h5
  simp only [DataW.lit.injEq, Lit.int.injEq, true_and] at h5
  subst h5
  exact hMore x w' cnt' hx (by rw [h2 x hx]; exact hlx) hfx (IntOk.of hwc) ⟨N, D, _, hrg, h1, fun k hk => by show (left k && !decide (k = x)) = (L (.int .i64 k) && !(Lit.int .i64 k).sameKey (.int .i64 x)); rw [h2 k hk, same_int]⟩ hlt hgr hsz hen

end Go.Proofs.Ytckjagpjljbohaa

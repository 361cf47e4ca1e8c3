/- Maps of ints to ints, and maps of ints to such maps: what they hold, how they are read, written and ranged over. -/
import Derived.Test.YtdnjeahbnidefaaProg
import Derived.Test.YtdnjeahbnidefaaGA
import Derived.Maps.RangeWalk
import Derived.Maps.OwnSet
namespace Go.Proofs.Ytdnjeahbnidefaa
open Go.RowKit Go.Maps

/-- an int of 64 bits -/
def IntOk (k : Int) : Prop := -9223372036854775808 ≤ k ∧ k ≤ 9223372036854775807
theorem IntOk.wf {k : Int} (h : IntOk k) : (Lit.int .i64 k).wf = true := by
  unfold IntOk at h
  simp [Lit.wf, IntKind.min, IntKind.max, IntKind.signed, IntKind.bits]; omega
theorem IntOk.of {k : Int} (h : (Lit.int .i64 k).wf = true) : IntOk k := by
  simp [Lit.wf, IntKind.min, IntKind.max, IntKind.signed, IntKind.bits] at h
  unfold IntOk; omega
theorem lawI : Keyed Try.prog 3 := int_keyed Try.underlying3
theorem zeroI (w : World) : (zeroValue 3).run Try.prog w = .ok (.int .i64 0) w := by kernel_rfl
theorem zeroM (w : World) : (zeroValue 60).run Try.prog w = .ok (.map none) w := by kernel_rfl
/-- what a map reads as: at each key a number that is not negative, or nothing -/
def Says (D : DataW Unit) (f : Int → Int) : Prop := ∀ k, IntOk k → (0 ≤ f k → has D (.int .i64 k) = true ∧ ∀ z, D.atKey (.int .i64 k) z = .lit (.int .i64 (f k))) ∧ (f k < 0 → has D (.int .i64 k) = false)
def IM (w : World) (b : Nat) (f : Int → Int) (N s : Nat) : Prop := ∃ D : DataW Unit, w.ownsMap Try.prog 3 (plainElem Try.prog 3) b N D ∧ size D = s ∧ Says D f
def updI (f : Int → Int) (k v : Int) : Int → Int := fun j => if j = k then v else f j
theorem updI_same (f : Int → Int) (k v : Int) : updI f k v k = v := if_pos rfl
theorem updI_ne (f : Int → Int) (v : Int) {j k : Int} (h : j ≠ k) : updI f k v j = f j := if_neg h
theorem Says.put {D : DataW Unit} {f : Int → Int} (h : Says D f) (hD : IsMap D) (k v : Int) (hv : 0 ≤ v) : Says (D.put (.int .i64 k) (.lit (.int .i64 v))) (updI f k v) := by
  intro j hj
  by_cases e : j = k
  · subst e
    rw [updI_same]
    exact ⟨fun _ => ⟨has_put_same (k := .int .i64 j) hD trivial _, fun z => atKey_put_same (k := .int .i64 j) hD trivial _ z⟩, fun h => by omega⟩
  · have hne : Lit.int .i64 j ≠ Lit.int .i64 k := fun h => e (by injection h)
    rw [updI_ne f v e, has_put_other hne]
    obtain ⟨h1, h2⟩ := h j hj
    exact ⟨fun g => ⟨(h1 g).1, fun z => by rw [atKey_put_other hne]; exact (h1 g).2 z⟩, h2⟩
theorem Says.congr {D : DataW Unit} {f g : Int → Int} (h : Says D f) (e : ∀ k, f k = g k) : Says D g := by
  have : f = g := funext e
  rw [← this]; exact h

section
variable {w w' : World} {b N s : Nat} {f : Int → Int}
theorem IM.new (w : World) : IM (w.alloc (.map #[] 0)) w.heap.size (fun _ => -1) 0 0 :=
  ⟨_, World.ownsMap_made w Try.prog 3 (plainElem Try.prog 3), rfl, fun _ _ => ⟨fun h => absurd (show (0 : Int) ≤ -1 from h) (by decide), fun _ => rfl⟩⟩
theorem IM.lt (h : IM w b f N s) : b < w.heap.size := by obtain ⟨D, h, _⟩ := h; exact h.lt
theorem IM.kept {row : Option Nat} (h : IM w b f N s) (hg : w.grownBy w' row) (hne : some b ≠ row) : IM w' b f N s := by
  obtain ⟨D, h, h1, h2⟩ := h
  exact ⟨D, h.kept hg hne, h1, h2⟩
theorem IM.below {B : Nat} (h : IM w b f N s) (hb : Below B w w') (hB : w.heap.size ≤ B) : IM w' b f N s := h.kept (grown_below hb hB none) (by simp)
theorem IM.alloc (h : IM w b f N s) (o : Obj) : IM (w.alloc o) b f N s := h.kept (World.grownBy_alloc w o none) (by simp)
theorem IM.drewN (h : IM w b f N s) (n : Nat) : IM (w.drewN n) b f N s := h
theorem IM.mono (h : IM w b f N s) {N' : Nat} (hn : N ≤ N') : IM w b f N' s := by
  obtain ⟨D, h, h1, h2⟩ := h
  exact ⟨D, h.mono hn, h1, h2⟩
theorem IM.congr {g : Int → Int} (h : IM w b f N s) (e : ∀ k, f k = g k) : IM w b g N s := by
  obtain ⟨D, h, h1, h2⟩ := h
  exact ⟨D, h, h1, h2.congr e⟩
theorem IM.size_le (h : IM w b f N s) : s ≤ N := by
  obtain ⟨D, h, h1, h2⟩ := h
  rw [← h1]; exact h.size_le
/-- v, ok := m[k] -/
theorem IM.yes (h : IM w b f N s) {k : Int} (hk : IntOk k) (hf : 0 ≤ f k) : (Instr.lookup 60 (.map (some b)) (.int .i64 k) true).run Try.prog w = .ok (.tuple #[.int .i64 (f k), .bool true]) w := by
  obtain ⟨D, h, _, h2⟩ := h
  obtain ⟨g1, g2⟩ := (h2 k hk).1 hf
  obtain ⟨v, ps, hrun, hv⟩ := h.look_ok lawI Try.underlying60 (zeroI w) (plainElem_int Try.underlying3 (by decide)) (keyOf_int_mk Try.underlying3 hk.wf)
  obtain ⟨c, rfl, hc, _⟩ := plainElem_int_inv Try.underlying3 hv
  have e1 := congrArg Prod.fst hc
  rw [g2] at e1
  simp only [DataW.lit.injEq, Lit.int.injEq, true_and] at e1
  rw [hrun, g1, e1]
theorem IM.no (h : IM w b f N s) {k : Int} (hk : IntOk k) (hf : f k < 0) : (Instr.lookup 60 (.map (some b)) (.int .i64 k) true).run Try.prog w = .ok (.tuple #[.int .i64 0, .bool false]) w := by
  obtain ⟨D, h, _, h2⟩ := h
  have g1 := (h2 k hk).2 hf
  obtain ⟨v, ps, hrun, hv⟩ := h.look_ok lawI Try.underlying60 (zeroI w) (plainElem_int Try.underlying3 (by decide)) (keyOf_int_mk Try.underlying3 hk.wf)
  obtain ⟨c, rfl, hc, _⟩ := plainElem_int_inv Try.underlying3 hv
  have e1 := congrArg Prod.fst hc
  rw [atKey_of_not_has g1] at e1
  simp only [DataW.lit.injEq, Lit.int.injEq, true_and] at e1
  rw [hrun, g1, ← e1]
/-- m[k] -/
theorem IM.get (h : IM w b f N s) {k : Int} (hk : IntOk k) (hf : 0 ≤ f k) : (Instr.lookup 60 (.map (some b)) (.int .i64 k) false).run Try.prog w = .ok (.int .i64 (f k)) w := by
  obtain ⟨D, h, _, h2⟩ := h
  obtain ⟨g1, g2⟩ := (h2 k hk).1 hf
  obtain ⟨v, ps, hrun, hv⟩ := h.lookup lawI Try.underlying60 (zeroI w) (plainElem_int Try.underlying3 (by decide)) (keyOf_int_mk Try.underlying3 hk.wf)
  obtain ⟨c, rfl, hc, _⟩ := plainElem_int_inv Try.underlying3 hv
  have e1 := congrArg Prod.fst hc
  rw [g2] at e1
  simp only [DataW.lit.injEq, Lit.int.injEq, true_and] at e1
  rw [hrun, e1]
theorem IM.len (h : IM w b f N s) (ty : TypeId) : (Builtin.len_ #[60] ty #[.map (some b)]).run Try.prog w = .ok (.int .i64 s) w := by
  obtain ⟨D, h, h1, _⟩ := h
  rw [← h1]; exact h.len Try.underlying60 ty
/-- m[k] = v -/
theorem IM.store (h : IM w b f N s) (hN : N < maxLen) {k v : Int} (hk : IntOk k) (hv : IntOk v) (h0 : 0 ≤ v) : ∃ w', (Instr.mapUpdate 60 (.map (some b)) (.int .i64 k) (.int .i64 v)).run Try.prog w = .ok () w' ∧ IM w' b (updI f k v) (N + 1) (if 0 ≤ f k then s else s + 1) ∧ w.grownBy w' (some b) := by
  obtain ⟨D, h, h1, h2⟩ := h
  obtain ⟨w', hrun, o, g⟩ := h.update lawI Try.underlying60 hN (keyOf_int_mk Try.underlying3 hk.wf) (plainElem_int (H := Unit) Try.underlying3 hv.wf)
  refine ⟨w', hrun, ⟨_, o, ?_, h2.put h.isMap k v h0⟩, g⟩
  rw [size_put (h.tidy lawI), h1]
  by_cases c : 0 ≤ f k
  · rw [if_pos c, if_pos ((h2 k hk).1 c).1]
  · rw [if_neg c, if_neg (by rw [(h2 k hk).2 (by omega)]; simp)]
end
theorem wpList_storeIM (w : World) {ops : Array Oper} {rest : List Oper} {o : Oper} {a : Act} {Q : Exit → Act → World → Prop}
    (hg : o.guard = none) (m x v : Operand) (hop : o.op = Op.mapUpdate 60 m x v) {b N s : Nat} {f : Int → Int} (hm : a.eval m = .map (some b)) (h : IM w b f N s) (hN : N < maxLen)
    (k val : Int) (hx : a.eval x = .int .i64 k) (hv : a.eval v = .int .i64 val) (hk : IntOk k) (hval : IntOk val) (h0 : 0 ≤ val)
    (hK : ∀ w', IM w' b (updI f k val) (N + 1) (if 0 ≤ f k then s else s + 1) → w.grownBy w' (some b) → wpList Try.prog ops Q rest (a.put o.dst undef) w') :
    wpList Try.prog ops Q (o :: rest) a w := by
  refine wpList_plain hg fun K' hK' => ?_
  obtain ⟨w', hrun, r1, r2⟩ := h.store hN hk hval h0
  unfold Oper.wp
  simp [execOp, hop, hm, hx, hv, hrun, Result.andThen]
  exact hK' _ _ (hK w' r1 r2)

/-- how a map that is an element reads: by its block -/
def refElem : Value → Option (DataW Unit × List MemPlace)
  | .map (some b) => some (.lit (.int .i64 (b : Int)), [])
  | .map none => some (.nil, [])
  | _ => none
theorem refElem_some {v : Value} {b : Nat} {ps : List MemPlace} (h : refElem v = some (.lit (.int .i64 (b : Int)), ps)) : v = .map (some b) := by
  unfold refElem at h
  split at h
  · injection h with h
    injection h with h _
    injection h with h
    injection h with _ h
    rw [Int.ofNat_inj.1 h]
  · injection h with h
    injection h with h _
    cases h
  · cases h
theorem refElem_none {v : Value} {ps : List MemPlace} (h : refElem v = some (.nil, ps)) : v = .map none := by
  unfold refElem at h
  split at h
  · injection h with h
    injection h with h _
    cases h
  · rfl
  · cases h
/-- a map of the first n ints to maps -/
def SaysM (D : DataW Unit) (n : Nat) (g : Nat → Nat) : Prop := ∀ k, IntOk k → ((0 ≤ k ∧ k < n) → has D (.int .i64 k) = true ∧ ∀ z, D.atKey (.int .i64 k) z = .lit (.int .i64 (g k.toNat : Int))) ∧ (¬ (0 ≤ k ∧ k < n) → has D (.int .i64 k) = false)
def OM (w : World) (b n : Nat) (g : Nat → Nat) : Prop := ∃ D : DataW Unit, w.ownsMap Try.prog 3 refElem b n D ∧ SaysM D n g
section
variable {w w' : World} {b n : Nat} {g : Nat → Nat}
theorem OM.new (w : World) (g : Nat → Nat) : OM (w.alloc (.map #[] 0)) w.heap.size 0 g :=
  ⟨_, World.ownsMap_made w Try.prog 3 refElem, fun _ _ => ⟨fun h => by omega, fun _ => rfl⟩⟩
theorem OM.lt (h : OM w b n g) : b < w.heap.size := by obtain ⟨D, h, _⟩ := h; exact h.lt
theorem OM.kept {row : Option Nat} (h : OM w b n g) (hg : w.grownBy w' row) (hne : some b ≠ row) : OM w' b n g := by
  obtain ⟨D, h, h1⟩ := h
  exact ⟨D, h.kept hg hne, h1⟩
theorem OM.below {B : Nat} (h : OM w b n g) (hb : Below B w w') (hB : w.heap.size ≤ B) : OM w' b n g := h.kept (grown_below hb hB none) (by simp)
theorem OM.alloc (h : OM w b n g) (o : Obj) : OM (w.alloc o) b n g := h.kept (World.grownBy_alloc w o none) (by simp)
theorem OM.get (h : OM w b n g) (t : Nat) (ht : t < n) (h8 : n ≤ 8) : (Instr.lookup 55 (.map (some b)) (.int .i64 (t : Int)) false).run Try.prog w = .ok (.map (some (g t))) w := by
  obtain ⟨D, h, h1⟩ := h
  have hk : IntOk (t : Int) := by unfold IntOk; omega
  obtain ⟨g1, g2⟩ := (h1 t hk).1 (by omega)
  obtain ⟨v, ps, hrun, hv⟩ := h.lookup lawI Try.underlying55 (zeroM w) (zd := .nil) (zp := []) rfl (keyOf_int_mk Try.underlying3 hk.wf)
  rw [g2, Int.toNat_natCast] at hv
  rw [hrun, refElem_some hv]
theorem OM.none (h : OM w b n g) {k : Int} (hk : IntOk k) (hn : ¬ (0 ≤ k ∧ k < n)) : (Instr.lookup 55 (.map (some b)) (.int .i64 k) false).run Try.prog w = .ok (.map none) w := by
  obtain ⟨D, h, h1⟩ := h
  have g1 := (h1 k hk).2 hn
  obtain ⟨v, ps, hrun, hv⟩ := h.lookup lawI Try.underlying55 (zeroM w) (zd := .nil) (zp := []) rfl (keyOf_int_mk Try.underlying3 hk.wf)
  rw [atKey_of_not_has g1] at hv
  rw [hrun, refElem_none hv]
/-- _, ok := m[k] -/
theorem OM.has (h : OM w b n g) {k : Int} (hk : IntOk k) : ∃ v, (Instr.lookup 55 (.map (some b)) (.int .i64 k) true).run Try.prog w = .ok (.tuple #[v, .bool (decide (0 ≤ k) && decide (k < n))]) w := by
  obtain ⟨D, h, h1⟩ := h
  obtain ⟨v, ps, hrun, hv⟩ := h.look_ok lawI Try.underlying55 (zeroM w) (zd := .nil) (zp := []) rfl (keyOf_int_mk Try.underlying3 hk.wf)
  refine ⟨v, ?_⟩
  rw [hrun]
  by_cases c : 0 ≤ k ∧ k < n
  · rw [((h1 k hk).1 c).1, decide_eq_true c.1, decide_eq_true c.2]; rfl
  · rw [(h1 k hk).2 c]
    have : (decide (0 ≤ k) && decide (k < (n : Int))) = false := by simpa using fun h => Int.not_lt.1 (fun h2 => c ⟨h, h2⟩)
    rw [this]
theorem OM.store (h : OM w b n g) (h8 : n < 8) (B : Nat) : ∃ w', (Instr.mapUpdate 55 (.map (some b)) (.int .i64 (n : Int)) (.map (some B))).run Try.prog w = .ok () w' ∧ OM w' b (n + 1) (fun t => if t = n then B else g t) ∧ w.grownBy w' (some b) := by
  obtain ⟨D, h, h1⟩ := h
  have hk : IntOk (n : Int) := by unfold IntOk; omega
  obtain ⟨w', hrun, o, hg⟩ := h.update lawI Try.underlying55 (by unfold maxLen; omega) (keyOf_int_mk Try.underlying3 hk.wf) (show refElem (.map (some B)) = _ from rfl)
  refine ⟨w', hrun, ⟨_, o, fun k hk => ?_⟩, hg⟩
  by_cases e : k = (n : Int)
  · subst e
    refine ⟨fun _ => ⟨has_put_same (k := .int .i64 (n : Int)) h.isMap trivial _, fun z => ?_⟩, fun hn => by omega⟩
    rw [atKey_put_same (k := .int .i64 (n : Int)) h.isMap trivial]
    show _ = DataW.lit (.int .i64 ((if (n : Int).toNat = n then B else g (n : Int).toNat : Nat) : Int))
    rw [Int.toNat_natCast, if_pos rfl]
  · have hne : Lit.int .i64 k ≠ Lit.int .i64 (n : Int) := fun h => e (by injection h)
    obtain ⟨q1, q2⟩ := h1 k hk
    refine ⟨fun hkn => ?_, fun hkn => by rw [has_put_other hne]; exact q2 (by omega)⟩
    obtain ⟨r1, r2⟩ := q1 (by omega)
    exact ⟨by rw [has_put_other hne]; exact r1, fun z => by
      rw [atKey_put_other hne, r2]
      show _ = DataW.lit (.int .i64 ((if k.toNat = n then B else g k.toNat : Nat) : Int))
      rw [if_neg (by omega)]⟩
end
theorem wpList_storeOM (w : World) {ops : Array Oper} {rest : List Oper} {o : Oper} {a : Act} {Q : Exit → Act → World → Prop}
    (hg : o.guard = none) (m x v : Operand) (hop : o.op = Op.mapUpdate 55 m x v) {b n : Nat} {g : Nat → Nat} (hm : a.eval m = .map (some b)) (h : OM w b n g) (h8 : n < 8)
    (B : Nat) (hx : a.eval x = .int .i64 (n : Int)) (hv : a.eval v = .map (some B))
    (hK : ∀ w', OM w' b (n + 1) (fun t => if t = n then B else g t) → w.grownBy w' (some b) → wpList Try.prog ops Q rest (a.put o.dst undef) w') :
    wpList Try.prog ops Q (o :: rest) a w := by
  refine wpList_plain hg fun K' hK' => ?_
  obtain ⟨w', hrun, r1, r2⟩ := h.store h8 B
  unfold Oper.wp
  simp [execOp, hop, hm, hx, hv, hrun, Result.andThen]
  exact hK' _ _ (hK w' r1 r2)

/-- a range over a map is under way: left: the keys still to come -/
def RG (w : World) (b r : Nat) (f : Int → Int) (left : Int → Bool) (cnt : Nat) : Prop :=
  ∃ N D L, w.ranges Try.prog 3 (plainElem Try.prog 3) b r N D L cnt ∧ Says D f ∧ ∀ k, IntOk k → left k = L (.int .i64 k)
section
variable {w w' : World} {b r N s cnt : Nat} {f : Int → Int} {left : Int → Bool}
theorem RG.left_eq (h : RG w b r f left cnt) : w.rangeLeft b r = cnt := by obtain ⟨N, D, L, h, _⟩ := h; exact h.left_eq
theorem RG.kept {row : Option Nat} (h : RG w b r f left cnt) (hg : w.grownBy w' row) (h1 : some b ≠ row) (h2 : some r ≠ row) : RG w' b r f left cnt := by
  obtain ⟨N, D, L, h, g1, g2⟩ := h
  exact ⟨N, D, L, h.kept hg h1 h2, g1, g2⟩
theorem RG.below {B : Nat} (h : RG w b r f left cnt) (hb : Below B w w') (hB : w.heap.size ≤ B) : RG w' b r f left cnt := h.kept (grown_below hb hB none) (by simp) (by simp)
theorem RG.drewN (h : RG w b r f left cnt) (n : Nat) : RG (w.drewN n) b r f left cnt := h
theorem same_int (j k : Int) : (Lit.int .i64 j).sameKey (.int .i64 k) = decide (j = k) := by
  by_cases e : j = k
  · subst e
    rw [WideAt.sameKey_self (a := .int .i64 j) trivial, decide_eq_true rfl]
  · rw [sameKey_ne (fun h => e (by injection h)), decide_eq_false e]
end
theorem wpList_rangeIM (w : World) {ops : Array Oper} {rest : List Oper} {o : Oper} {a : Act} {Q : Exit → Act → World → Prop}
    (hg : o.guard = none) (m : Operand) (hop : o.op = Op.range 60 m) {b N s : Nat} {f : Int → Int} (hm : a.eval m = .map (some b)) (h : IM w b f N s)
    (hK : ∀ w', RG w' b w.heap.size f (fun k => decide (0 ≤ f k)) s → w.grownBy w' none → w'.heap.size = w.heap.size + 1 → wpList Try.prog ops Q rest (a.put o.dst (.pointer (some ⟨w.heap.size, 0, none⟩))) w') :
    wpList Try.prog ops Q (o :: rest) a w := by
  obtain ⟨D, h, h1, h2⟩ := h
  refine wpList_range_own w hg m 60 hop 3 3 lawI Try.underlying60 (plainElem Try.prog 3) b N D hm h (fun w' r1 r2 r3 => hK w' ⟨N, D, _, by rw [← h1]; exact r1, h2, fun k hk => ?_⟩ r2 r3)
  show decide (0 ≤ f k) = has D (.int .i64 k)
  by_cases c : 0 ≤ f k
  · rw [decide_eq_true c, ((h2 k hk).1 c).1]
  · rw [decide_eq_false c, (h2 k hk).2 (by omega)]
theorem wpList_nextIM (w : World) {ops : Array Oper} {rest : List Oper} {o : Oper} {a : Act} {Q : Exit → Act → World → Prop}
    (hg : o.guard = none) (it : Operand) (hop : o.op = Op.next it false) {b r cnt : Nat} {f : Int → Int} {left : Int → Bool} (hit : a.eval it = .pointer (some ⟨r, 0, none⟩)) (h : RG w b r f left cnt)
    (hDone : cnt = 0 → (∀ k, IntOk k → left k = false) → wpList Try.prog ops Q rest (a.put o.dst (.tuple #[.bool false])) w)
    (hMore : ∀ (x : Int) (w' : World) (cnt' : Nat), IntOk x → left x = true → 0 ≤ f x → IntOk (f x) → RG w' b r f (fun z => left z && !decide (z = x)) cnt' → cnt' < cnt → w.grownBy w' (some r) → w'.heap.size = w.heap.size →
      (Instr.entry (.pointer (some ⟨r, 0, none⟩))).run Try.prog w' = .ok (.tuple #[.int .i64 x, .int .i64 (f x)]) w' → wpList Try.prog ops Q rest (a.put o.dst (.tuple #[.bool true, .int .i64 x, .int .i64 (f x)])) w') :
    wpList Try.prog ops Q (o :: rest) a w := by
  obtain ⟨N, D, L, h, h1, h2⟩ := h
  refine wpList_next_ranges_ii w hg it hop 3 3 .i64 .i64 lawI Try.underlying3 Try.underlying3 b r N D L cnt hit h (fun c0 hl => hDone c0 (fun k hk => by rw [h2 k hk, hl])) ?_
  intro x c w' cnt' hwx hwc hlx hat hrg hlt hgr hsz hen
  have hx := IntOk.of hwx
  have hfx : 0 ≤ f x := Classical.byContradiction fun hn => by
    have h3 := (h1 x hx).2 (by omega)
    have h4 := atKey_of_not_has h3 .nil
    rw [hat] at h4
    cases h4
  have h5 := ((h1 x hx).1 hfx).2 .nil
  rw [hat] at h5
  simp only [DataW.lit.injEq, Lit.int.injEq, true_and] at h5
  subst h5
  exact hMore x w' cnt' hx (by rw [h2 x hx]; exact hlx) hfx (IntOk.of hwc) ⟨N, D, _, hrg, h1, fun k hk => by show (left k && !decide (k = x)) = (L (.int .i64 k) && !(Lit.int .i64 k).sameKey (.int .i64 x)); rw [h2 k hk, same_int]⟩ hlt hgr hsz hen

/-- the map of roads: a map for each town -/
structure RMap (w : World) (base b n : Nat) (e : Int → Int → Int) (N : Nat) (g : Nat → Nat) : Prop where
  om : OM w b n g
  im : ∀ t, t < n → ∃ s, IM w (g t) (e t) N s
  inj : ∀ t u, t < n → u < n → g t = g u → t = u
  off : ∀ t, t < n → g t ≠ b
  base : base ≤ b ∧ ∀ t, t < n → base ≤ g t
section
variable {w w' : World} {base b n N : Nat} {e : Int → Int → Int} {g : Nat → Nat}
theorem RMap.below {B : Nat} (h : RMap w base b n e N g) (hb : Below B w w') (hB : w.heap.size ≤ B) : RMap w' base b n e N g :=
  ⟨h.om.below hb hB, fun t ht => by obtain ⟨s, hs⟩ := h.im t ht; exact ⟨s, hs.below hb hB⟩, h.inj, h.off, h.base⟩
theorem RMap.alloc (h : RMap w base b n e N g) (o : Obj) : RMap (w.alloc o) base b n e N g := h.below ((Below.refl w.heap.size w).alloc (Nat.le_refl _) o) (Nat.le_refl _)
theorem RMap.drewN (h : RMap w base b n e N g) (k : Nat) : RMap (w.drewN k) base b n e N g := h.below (below_drewN (Below.refl w.heap.size w) k) (Nat.le_refl _)
theorem RMap.congr {f : Int → Int → Int} (h : RMap w base b n e N g) (hf : ∀ (t : Nat) k, t < n → e t k = f t k) : RMap w base b n f N g :=
  ⟨h.om, fun t ht => by obtain ⟨s, hs⟩ := h.im t ht; exact ⟨s, hs.congr (fun k => hf t k ht)⟩, h.inj, h.off, h.base⟩
/-- behind a store into one town's map -/
theorem RMap.stored {t M s : Nat} (h : RMap w base b n e N g) (ht : t < n) (hg : w.grownBy w' (some (g t))) (f : Int → Int) (hi : IM w' (g t) f M s) (hN : N ≤ M) : RMap w' base b n (fun i => if i = (t : Int) then f else e i) M g := by
  refine ⟨h.om.kept hg (fun e1 => h.off t ht (Option.some.inj e1).symm), fun u hu => ?_, h.inj, h.off, h.base⟩
  by_cases c : u = t
  · subst c
    exact ⟨s, hi.congr (fun k => by rw [if_pos rfl])⟩
  · obtain ⟨s', hs⟩ := h.im u hu
    exact ⟨s', ((hs.kept hg (fun e1 => c (h.inj u t hu ht (Option.some.inj e1)))).mono hN).congr (fun k => by rw [if_neg (by omega)])⟩
/-- m[a][b], town by town -/
theorem RMap.get1 (h : RMap w base b n e N g) (h8 : n ≤ 8) (t : Nat) (ht : t < n) : (Instr.lookup 55 (.map (some b)) (.int .i64 (t : Int)) false).run Try.prog w = .ok (.map (some (g t))) w := h.om.get t ht h8
theorem RMap.yes (h : RMap w base b n e N g) {t : Nat} (ht : t < n) {k : Int} (hk : IntOk k) (hf : 0 ≤ e t k) : (Instr.lookup 60 (.map (some (g t))) (.int .i64 k) true).run Try.prog w = .ok (.tuple #[.int .i64 (e t k), .bool true]) w := by
  obtain ⟨s, hs⟩ := h.im t ht
  exact hs.yes hk hf
theorem RMap.no (h : RMap w base b n e N g) {t : Nat} (ht : t < n) {k : Int} (hk : IntOk k) (hf : e t k < 0) : (Instr.lookup 60 (.map (some (g t))) (.int .i64 k) true).run Try.prog w = .ok (.tuple #[.int .i64 0, .bool false]) w := by
  obtain ⟨s, hs⟩ := h.im t ht
  exact hs.no hk hf
theorem look_nilI (w : World) {k : Int} (hk : IntOk k) : (Instr.lookup 60 (.map none) (.int .i64 k) true).run Try.prog w = .ok (.tuple #[.int .i64 0, .bool false]) w :=
  Maps.look_nil true lawI Try.underlying60 (zeroI w) (keyOf_int_mk Try.underlying3 hk.wf)
end
end Go.Proofs.Ytdnjeahbnidefaa

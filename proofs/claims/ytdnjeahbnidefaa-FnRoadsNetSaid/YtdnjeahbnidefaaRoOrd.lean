/- Plain laws: the order of roads by miles, the net. No program is named here. -/
import Derived.Test.YtdnjeahbnidefaaGA
import Derived.Test.YtdnjeahbnidefaaStab
import Derived.Test.YtdnjeahbnidefaaNexts
import Derived.Test.YtdnjeahbnidefaaRoWhole
namespace Go.Proofs.Ytdnjeahbnidefaa
open Go.RowKit

/-- the first k indexes whose roads have m miles -/
def byM (rs : List (Int × Int × Int)) (m k : Nat) : List Nat := (List.range k).filter fun i => decide (c3 rs i = m)
/-- the indexes whose roads have 1 to k miles, in order -/
def ordTo (rs : List (Int × Int × Int)) : Nat → List Nat
  | 0 => []
  | k + 1 => ordTo rs k ++ byM rs (k + 1) rs.length
def order (rs : List (Int × Int × Int)) : List Nat := ordTo rs 99
def lexR (rs : List (Int × Int × Int)) (i j : Nat) : Prop := c3 rs i < c3 rs j ∨ (c3 rs i = c3 rs j ∧ i < j)
section
variable {n : Nat} {rs : List (Int × Int × Int)}
theorem mem_byM {m k i : Nat} : i ∈ byM rs m k ↔ i < k ∧ c3 rs i = m := by
  unfold byM
  rw [List.mem_filter, List.mem_range, decide_eq_true_eq]
theorem mem_ordTo {i : Nat} : ∀ k, i ∈ ordTo rs k ↔ i < rs.length ∧ 1 ≤ c3 rs i ∧ c3 rs i ≤ k := by
  intro k
  induction k with
  | zero => exact ⟨fun h => (by cases h), fun h => (by omega)⟩
  | succ k ih =>
    rw [ordTo, List.mem_append, ih, mem_byM]
    push_cast
    omega
theorem ordTo_lex : ∀ k, (ordTo rs k).Pairwise (lexR rs) := by
  intro k
  induction k with
  | zero => exact List.Pairwise.nil
  | succ k ih =>
    rw [ordTo, List.pairwise_append]
    refine ⟨ih, ?_, fun i hi j hj => ?_⟩
    · have h1 : (byM rs (k + 1) rs.length).Pairwise (· < ·) := List.pairwise_lt_range.filter _
      refine h1.imp_of_mem fun {a b} ha hb hab => ?_
      have h2 := (mem_byM.1 ha).2
      have h3 := (mem_byM.1 hb).2
      exact .inr ⟨by omega, hab⟩
    · have h2 := ((mem_ordTo k).1 hi).2.2
      have h3 := (mem_byM.1 hj).2
      refine .inl ?_
      push_cast at h3
      omega
theorem order_lex : (order rs).Pairwise (lexR rs) := ordTo_lex 99
theorem RV.mem_order (h : RV n rs) {i : Nat} : i ∈ order rs ↔ i < rs.length := by
  unfold order
  rw [mem_ordTo]
  constructor
  · exact fun g => g.1
  · intro g
    have := h.road i g
    exact ⟨g, by omega, by omega⟩
theorem order_nodup : (order rs).Nodup := by
  unfold List.Nodup order
  refine (ordTo_lex 99).imp fun {a b} hab => ?_
  rcases hab with h | ⟨_, h⟩
  · intro e; subst e; omega
  · omega
theorem order_miles : (order rs).Pairwise (fun i j => c3 rs i ≤ c3 rs j) := (ordTo_lex 99).imp fun {a b} hab => by
  rcases hab with h | ⟨h, _⟩ <;> omega
theorem RV.order_perm (h : RV n rs) : (order rs).Perm (List.range rs.length) := by
  rw [List.perm_ext_iff_of_nodup order_nodup List.nodup_range]
  intro i
  rw [h.mem_order, List.mem_range]
theorem keys_asc {O : List Nat} (hlx : O.Pairwise (lexR rs)) (hb : ∀ i ∈ O, i < 1000) : AscTo (keys rs (castL O)) (keys rs (castL O)).length := fun i j hij hj => by
  rw [keys_len, castL_len] at hj
  have hi : i < O.length := by omega
  rw [keys_at _ _ _ (by rw [castL_len]; omega), keys_at _ _ _ (by rw [castL_len]; omega), castL_at, castL_at]
  have hlex := (List.pairwise_iff_getElem.1 hlx) i j hi hj hij
  have b1 := hb O[i] (List.getElem_mem hi)
  have b2 := hb O[j] (List.getElem_mem hj)
  have e1 : O.getD i 0 = O[i] := by rw [List.getD_eq_getElem?_getD, List.getElem?_eq_getElem hi, Option.getD_some]
  have e2 : O.getD j 0 = O[j] := by rw [List.getD_eq_getElem?_getD, List.getElem?_eq_getElem hj, Option.getD_some]
  rw [e1, e2]
  unfold keyOf
  rw [Int.toNat_natCast, Int.toNat_natCast]
  rcases hlex with hx | ⟨hx, hy⟩ <;> omega
/-- what a stable sort leaves is that order -/
theorem RV.order_is (h : RV n rs) {ys : List Int} (hp : ys.Perm ((List.range rs.length).map fun (i : Nat) => (i : Int))) (ha : AscTo (keys rs ys) rs.length) : ys = castL (order rs) := by
  have hp2 : (castL (order rs)).Perm ((List.range rs.length).map fun (i : Nat) => (i : Int)) := h.order_perm.map _
  have hl : ys.length = rs.length := by rw [hp.length_eq]; simp
  have hl2 : (castL (order rs)).length = rs.length := by rw [hp2.length_eq]; simp
  have hin : ∀ zs : List Int, zs.Perm ((List.range rs.length).map fun (i : Nat) => (i : Int)) → ∀ i, i < zs.length → 0 ≤ a1 zs i ∧ a1 zs i < rs.length := fun zs hz i hi => by
    have hmem : a1 zs i ∈ zs := by
      unfold a1
      rw [List.getD_eq_getElem?_getD, List.getElem?_eq_getElem hi]
      exact List.getElem_mem hi
    obtain ⟨v, hv, e⟩ := List.mem_map.1 (hz.mem_iff.1 hmem)
    rw [List.mem_range] at hv
    omega
  have hasc := keys_asc (order_lex (rs := rs)) (fun i hi => by have := h.mem_order.1 hi; have := h.l16; omega)
  have hk := asc_eq (xs := keys rs ys) (ys := keys rs (castL (order rs))) ((hp.trans hp2.symm).map _) (by rw [keys_len, hl]; exact ha) hasc
  apply List.ext_getElem? 
  intro i
  by_cases hi : i < rs.length
  · have h1 : a1 (keys rs ys) i = a1 (keys rs (castL (order rs))) i := by rw [hk]
    rw [keys_at _ _ _ (by omega), keys_at _ _ _ (by omega)] at h1
    have b1 := hin _ hp i (by omega)
    have b2 := hin _ hp2 i (by omega)
    have l16 := h.l16
    unfold keyOf at h1
    have c1 := h.road (a1 ys i).toNat (by omega)
    have c2 := h.road (a1 (castL (order rs)) i).toNat (by omega)
    have e : a1 ys i = a1 (castL (order rs)) i := by omega
    unfold a1 at e
    rw [List.getD_eq_getElem?_getD, List.getD_eq_getElem?_getD, List.getElem?_eq_getElem (by omega), List.getElem?_eq_getElem (by omega)] at e
    rw [List.getElem?_eq_getElem (by omega), List.getElem?_eq_getElem (by omega)]
    exact congrArg some e
  · rw [List.getElem?_eq_none (by omega), List.getElem?_eq_none (by omega)]
/-- the net: the roads that are taken in that order -/
def netT (n : Nat) (rs : List (Int × Int × Int)) : List Nat := kr n rs [] (order rs)
def netL (n : Nat) (rs : List (Int × Int × Int)) : List Nat := (List.range rs.length).filter fun i => decide (i ∈ netT n rs)
def roadsNet (n : Int) (rs : List (Int × Int × Int)) : List Int := if whole n rs = true then castL (netL n.toNat rs) else []
theorem roadsNet_f {n : Int} {rs : List (Int × Int × Int)} (h : whole n rs = false) : roadsNet n rs = [] := by rw [roadsNet, h]; rfl
theorem roadsNet_t {n : Nat} {rs : List (Int × Int × Int)} (h : whole n rs = true) : roadsNet n rs = castL (netL n rs) := by rw [roadsNet, h]; rfl
theorem forest_nil : Forest n rs [] := ⟨⟨List.nodup_nil, fun i h => by cases h⟩, fun i h => by cases h⟩
theorem RV.net_forest (h : RV n rs) {P : List Nat} (hP : ∀ i ∈ P, i < rs.length) : Forest n rs (kr n rs [] P) := (h.kr_law P [] forest_nil hP).1
theorem mem_netL (h : RV n rs) {i : Nat} : i ∈ netL n rs ↔ i ∈ netT n rs := by
  unfold netL
  rw [List.mem_filter, List.mem_range, decide_eq_true_eq]
  exact ⟨fun g => g.2, fun g => ⟨(h.net_forest (fun i hi => h.mem_order.1 hi)).1.2 i g, g⟩⟩
theorem netL_asc (n : Nat) (rs : List (Int × Int × Int)) : (netL n rs).Pairwise (· < ·) := List.pairwise_lt_range.filter _
theorem netL_le (n : Nat) (rs : List (Int × Int × Int)) : (netL n rs).length ≤ rs.length := by
  unfold netL
  have := List.length_filter_le (fun i => decide (i ∈ netT n rs)) (List.range rs.length)
  simpa using this
theorem RV.netT_perm (h : RV n rs) : (castL (netT n rs)).Perm (castL (netL n rs)) := by
  refine List.Perm.map _ ?_
  have hnd : (netT n rs).Nodup := (h.net_forest (fun i hi => h.mem_order.1 hi)).1.1
  have hnl : (netL n rs).Nodup := (netL_asc n rs).imp fun h => (by omega)
  rw [List.perm_ext_iff_of_nodup hnd hnl]
  intro i
  exact (mem_netL h).symm
theorem roadsNet_le (n : Int) (rs : List (Int × Int × Int)) : (roadsNet n rs).length ≤ 1048576 := by
  cases hw : whole n rs
  · rw [roadsNet_f hw]; simp
  · obtain ⟨m, rfl, hv, _⟩ := whole_t hw
    rw [roadsNet_t hw, castL_len]
    have := netL_le m rs
    have := hv.l16
    omega
/-- one more road's turn -/
theorem kr_snoc (P : List Nat) (i : Nat) : kr n rs [] (P ++ [i]) = kstep n rs (kr n rs [] P) i := by
  unfold kr
  rw [List.foldl_append]
  rfl
/-- a road's turn, as the program asks -/
theorem RV.turn (h : RV n rs) {T : List Nat} (hT : IsIdx rs T) {i : Nat} (hi : i < rs.length) : RV n (pick3 rs T) ∧ kstep n rs T i = (if roadsFar n (pick3 rs T) (a3 rs i) (b3 rs i) < 0 then T ++ [i] else T) ∧ T.length ≤ 16 ∧ (pick3 rs T).length = T.length := by
  have hp := h.pick hT.2 hT.1
  obtain ⟨e1, e2, h1, h2, _⟩ := h.towns hi
  have hf : roadsFar n (pick3 rs T) (a3 rs i) (b3 rs i) = dist n (pick3 rs T) (tA rs i) (tB rs i) := by
    rw [← e1, ← e2]
    exact roadsFar_in (roadsValid_of hp) h1 h2
  have hl : (pick3 rs T).length = T.length := by simp [pick3]
  exact ⟨hp, by rw [kstep, hf], by rw [← hl]; exact hp.l16, hl⟩
theorem pick3_snoc (T : List Nat) (i : Nat) : pick3 rs (T ++ [i]) = pick3 rs T ++ [rs.getD i (0, 0, 0)] := by simp [pick3]
end
end Go.Proofs.Ytdnjeahbnidefaa

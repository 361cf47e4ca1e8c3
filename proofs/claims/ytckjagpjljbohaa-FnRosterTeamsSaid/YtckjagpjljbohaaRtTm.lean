/- Walks: RosterTeams of the program and of the reference, TeamsBusy. -/
import Derived.Test.YtckjagpjljbohaaRtLaw
import Derived.Test.YtckjagpjljbohaaRu5
import Derived.Test.YtckjagpjljbohaaMaps
import Derived.Deep.QuietTactic
import Derived.BigQuiet
import Derived.BigRegion
namespace Go.Proofs.Ytckjagpjljbohaa
open Go.RowKit Go.Maps

theorem IM.nil0 {w : World} {b N s : Nat} {f : Int → Int} (h : IM w b f N s) {k : Int} (hk : IntOk k) (hf : f k < 0) : (Instr.lookup 37 (.map (some b)) (.int .i64 k) false).run Try.prog w = .ok (.int .i64 0) w := by
  obtain ⟨D, h, _, h2⟩ := h
  have g1 := (h2 k hk).2 hf
  obtain ⟨v, ps, hrun, hv⟩ := h.lookup lawI Try.underlying37 (zeroI w) (plainElem_int Try.underlying3 (by decide)) (keyOf_int_mk Try.underlying3 hk.wf)
  obtain ⟨c, rfl, hc, _⟩ := plainElem_int_inv Try.underlying3 hv
  have e1 := congrArg Prod.fst hc
  rw [atKey_of_not_has g1] at e1
  simp only [DataW.lit.injEq, Lit.int.injEq, true_and] at e1
  rw [hrun, ← e1]
/-- what the map of teams says when k runs have come: how many of them a team has, -1 for none -/
def seenF (ro : List Int) : Nat → Int → Int
  | 0 => fun _ => -1
  | k + 1 => updI (seenF ro k) (a1 ro k) ((if 0 ≤ seenF ro k (a1 ro k) then seenF ro k (a1 ro k) else 0) + 1)
theorem seenF_in (ro : List Int) : ∀ (k : Nat) (x : Int), -1 ≤ seenF ro k x ∧ seenF ro k x ≤ k := by
  intro k
  induction k with
  | zero => intro x; simp [seenF]
  | succ k ih =>
    intro x
    have h1 := ih x
    have h2 := ih (a1 ro k)
    rw [seenF]
    unfold updI
    split
    · split <;> omega
    · omega
theorem seenF_iff (ro : List Int) : ∀ (k : Nat) (x : Int), 0 ≤ seenF ro k x ↔ ∃ j, j < k ∧ a1 ro j = x := by
  intro k
  induction k with
  | zero => intro x; simp [seenF]
  | succ k ih =>
    intro x
    rw [seenF]
    by_cases e : x = a1 ro k
    · subst e
      rw [updI_same]
      exact ⟨fun _ => ⟨k, by omega, rfl⟩, fun _ => by split <;> omega⟩
    · rw [updI_ne _ _ e, ih x]
      constructor
      · rintro ⟨j, hj, h⟩; exact ⟨j, by omega, h⟩
      · rintro ⟨j, hj, h⟩
        by_cases q : j = k
        · subst q; exact absurd h.symm e
        · exact ⟨j, by omega, h⟩
theorem diffTo_seen (ro : List Int) (k : Nat) : (if 0 ≤ seenF ro k (a1 ro k) then diffTo ro k else diffTo ro k + 1) = diffTo ro (k + 1) := by
  rw [diffTo]
  by_cases h : 0 ≤ seenF ro k (a1 ro k)
  · obtain ⟨j, hj, e⟩ := (seenF_iff ro k _).1 h
    rw [if_pos h, if_neg (fun q => (isNew_iff.1 q) j hj e)]
  · rw [if_neg h, if_pos (isNew_iff.2 (fun i hi e => h ((seenF_iff ro k _).2 ⟨i, hi, e⟩)))]
/-- what RosterTeams returns -/
def rosterTeams (rs : List (Int × Int)) (rest : Int) (ro : List Int) : Int := if rosterValid rs rest ro = true then (diffTo ro ro.length : Nat) else -1
set_option maxRecDepth 100000 in
set_option maxHeartbeats 2000000 in
theorem implRosterTeams_any (A : Option Addr) (rs : List (Int × Int)) (m cap : Nat) (rest : Int) (B : Option Addr) (ro : List Int) (q capB : Nat) (w : World) (hl : rs.length = m) (hm : m ≤ 1048576) (hr : Rd w A (fl2 rs)) (hlb : ro.length = q) (hq : q ≤ 1048576) (hs : Rd w B (fl1 ro)) :
    Calls Try.prog 5 #[.slice A m cap, .int .i64 rest, .slice B q capB] w (Ret w (.int .i64 (rosterTeams rs rest ro))) := by
  have Hl := hideIt hl
  have Hlb := hideIt hlb
  clear hl hlb
  cases hv : rosterValid rs rest ro
  · have Hv := hideIt hv
    have Hd := hideIt (show rosterTeams rs rest ro = -1 by rw [rosterTeams, hv]; rfl)
    clear hv
    go_enter Try.func5, Try.ntmps5
    go_wp2_with fail
    refine (implRosterValid_any _ _ _ _ _ _ _ _ _ _ _ Hl.out hm hr Hlb.out hq hs Hv.out).mono ?_
    rintro e w1 ⟨rfl, hb1⟩
    go_wp2
    go_ret
    exact ⟨ret_int Hd.out.symm, hb1⟩
  have Hv := hideIt hv
  have Hd := hideIt (show rosterTeams rs rest ro = (diffTo ro ro.length : Nat) by rw [rosterTeams, hv]; rfl)
  obtain ⟨_, _, hin, _⟩ := rosterValid_t hv
  have Hin : Hid (∀ j, 0 ≤ a1 ro j ∧ a1 ro j ≤ 11) := hideIt hin
  clear hv hin
  go_enter Try.func5, Try.ntmps5
  go_wp2_with fail
  refine (implRosterValid_any _ _ _ _ _ _ _ _ _ _ _ Hl.out hm hr Hlb.out hq hs Hv.out).mono ?_
  rintro e w1 ⟨rfl, hb1⟩
  have hs1 := hs.below hb1 (Nat.le_refl _)
  have hi0 := IM.new w1
  have hB0 := hb1.alloc hb1.size (.map #[] 0)
  have hlt1 := hb1.size
  have hmm := @run_makeMap Try.prog
  go_wp2
  clear hmm
  go_loopw [18] (fun i wr => ∃ k : Nat, k ≤ q ∧ i = .int .i64 k ∧ IM wr w1.heap.size (seenF ro k) k (diffTo ro k) ∧ Below w.heap.size w wr) (fun i _ => q - (intOf i).toNat)
  case atStart => exact ⟨0, by omega, rfl, hi0, hB0⟩
  case round =>
    obtain ⟨k, hk, rfl, him, bd⟩ := hrel
    clear hi0 hB0
    by_cases hlt : k < q
    · obtain ⟨bb, off, rfl, hbl, hc⟩ := hs.at1 (k := k) (by rw [Hlb.out]; exact hlt)
      have hck := (bd.cell (p := ⟨bb, off + k, none⟩) hbl).trans (hc k (by rw [Hlb.out]; exact hlt))
      have hx := Hin.out k
      have hsi := seenF_in ro k (a1 ro k)
      have Hst : Hid (∀ v : Int, v = (if 0 ≤ seenF ro k (a1 ro k) then seenF ro k (a1 ro k) else 0) + 1 → updI (seenF ro k) (a1 ro k) v = seenF ro (k + 1)) := hideIt (fun v hv => by rw [hv]; rfl)
      have Hdf := hideIt (diffTo_seen ro k)
      obtain ⟨x, hxe⟩ : ∃ x, a1 ro k = x := ⟨_, rfl⟩
      rw [hxe] at hck hx hsi Hst Hdf
      have okx : IntOk x := by unfold IntOk; omega
      have hkq : (k : Int) < (q : Int) := by omega
      by_cases hn : 0 ≤ seenF ro k x
      · have hget := him.get okx hn
        rw [if_pos hn] at Hdf Hst
        have him' := him
        obtain ⟨v, hve⟩ : ∃ v, seenF ro k x = v := ⟨_, rfl⟩
        rw [hve] at hget hsi Hst hn
        have HV := hideIt hve
        have hw := IntWalk.i64_in (v + 1) (by omega)
        have okv : IntOk (v + 1) := by unfold IntOk; omega
        have hv0 : 0 ≤ v + 1 := by omega
        clear hve hxe hc
        go_wp2_with (at_mapUpdate; refine wpList_storeIM _ rfl (.tmp 22) (.tmp 23) (.tmp 25) rfl rfl him (by unfold maxLen; omega) x (v + 1) rfl rfl okx okv hv0 ?_; intro w2 hi2 hg2)
        rw [Hst.out _ rfl, if_pos (by rw [HV.out]; exact hn), Hdf.out] at hi2
        have b2 := bd.grown hg2 bd.size (fun g e => by cases e; exact hlt1)
        go_roundw
        case rel => exact ⟨k + 1, by omega, by go_num, hi2, b2⟩
        case measure => simp [intOf]; omega
      · have hget := him.nil0 okx (by omega)
        rw [if_neg hn] at Hdf Hst
        have HN := hideIt hn
        clear hxe hc hn
        go_wp2_with (at_mapUpdate; refine wpList_storeIM _ rfl (.tmp 22) (.tmp 23) (.tmp 25) rfl rfl him (by unfold maxLen; omega) x 1 rfl rfl okx (by unfold IntOk; omega) (by omega) ?_; intro w2 hi2 hg2)
        rw [Hst.out 1 rfl, if_neg HN.out, Hdf.out] at hi2
        have b2 := bd.grown hg2 bd.size (fun g e => by cases e; exact hlt1)
        go_roundw
        case rel => exact ⟨k + 1, by omega, by go_num, hi2, b2⟩
        case measure => simp [intOf]; omega
    · obtain rfl : k = q := by omega
      have hlen := fun ty => him.len ty
      go_wp2
      go_ret
      exact ⟨ret_int (by rw [Hd.out, Hlb.out]), bd⟩
theorem ret_boolv {a b : Bool} (h : a = b) : Value.bool a = .bool b := by rw [h]
/-- no run of the first k has run i's team -/
def newTo (ro : List Int) (i k : Nat) : Bool := (List.range k).all fun j => !decide (a1 ro j = a1 ro i)
theorem newTo_step (ro : List Int) (i k : Nat) : newTo ro i (k + 1) = (newTo ro i k && !decide (a1 ro k = a1 ro i)) := by
  unfold newTo
  rw [List.range_succ, List.all_append]
  simp
theorem newTo_diff (ro : List Int) (i : Nat) : (if newTo ro i i = true then diffTo ro i + 1 else diffTo ro i) = diffTo ro (i + 1) := rfl
set_option maxRecDepth 100000 in
set_option maxHeartbeats 1000000 in
theorem l3Different_any (B : Option Addr) (ro : List Int) (q capB : Nat) (w : World) (hlb : ro.length = q) (hq : q ≤ 1048576) (hs : Rd w B (fl1 ro)) :
    Calls Try.prog 13 #[.slice B q capB] w (Ret w (.int .i64 (diffTo ro q : Nat))) := by
  have Hlb := hideIt hlb
  clear hlb
  have Hle := hideIt (diffTo_le ro)
  go_enter Try.func13, Try.ntmps13
  go_wp2
  go_loopw [3, 4] (fun n i wr => ∃ k : Nat, k ≤ q ∧ n = .int .i64 (diffTo ro k : Nat) ∧ i = .int .i64 k ∧ Below w.heap.size w wr) (fun _ i _ => q - (intOf i).toNat)
  case atStart => exact ⟨0, by omega, rfl, rfl, Below.refl _ _⟩
  case round =>
    obtain ⟨k, hk, rfl, rfl, bd⟩ := hrel
    by_cases hlt : k < q
    · obtain ⟨bb, off, rfl, hbl, hc⟩ := hs.at1 (k := k) (by rw [Hlb.out]; exact hlt)
      have hle := Hle.out k
      have Hdf := hideIt (newTo_diff ro k)
      have hkq : (k : Int) < (q : Int) := by omega
      have hck := (bd.cell (p := ⟨bb, off + k, none⟩) hbl).trans (hc k (by rw [Hlb.out]; exact hlt))
      obtain ⟨x, hxe⟩ : ∃ x, a1 ro k = x := ⟨_, rfl⟩
      rw [hxe] at hck
      have Hxe := hideIt hxe
      have Hc : Hid (∀ j, j < ro.length → w.cell? ⟨bb, off + j, none⟩ = some (.int .i64 (a1 ro j))) := hideIt hc
      clear hc hxe
      go_wp2
      go_loopw [5, 6] (fun fr j wr => ∃ d : Nat, d ≤ k ∧ fr = .bool (newTo ro k d) ∧ j = .int .i64 d ∧ Below w.heap.size w wr ∧ wr.cell? ⟨bb, off + k, none⟩ = some (.int .i64 x)) (fun _ j _ => k - (intOf j).toNat)
      case atStart => exact ⟨0, by omega, rfl, rfl, bd, hck⟩
      case round =>
        obtain ⟨d, hd, rfl, rfl, bd2, hck2⟩ := hrel
        clear hck bd
        by_cases hdk : d < k
        · have hcd := (bd2.cell (p := ⟨bb, off + d, none⟩) hbl).trans (Hc.out d (by rw [Hlb.out]; omega))
          have Hn := hideIt (newTo_step ro k d)
          obtain ⟨y, hye⟩ : ∃ y, a1 ro d = y := ⟨_, rfl⟩
          rw [hye] at hcd
          have Hye := hideIt hye
          clear hye
          cases hf : newTo ro k d
          · have Hf := hideIt hf
            have hck3 : (wr.drewN 1).cell? ⟨bb, off + k, none⟩ = some (.int .i64 x) := hck2
            clear hf
            go_wp2
            go_quiet (fail)
            go_wp2
            go_roundw
            case rel => exact ⟨d + 1, by omega, ret_boolv (by rw [Hn.out, Hf.out]; rfl), by go_num, below_drewN bd2 _, hck3⟩
            case measure => simp [intOf]; omega
          · have Hf := hideIt hf
            have hck3 : (wr.drewN 1).cell? ⟨bb, off + k, none⟩ = some (.int .i64 x) := hck2
            clear hf
            by_cases hxy : y = x
            · have He := hideIt hxy
              have hd2 : (y != x) = false := by simp [hxy]
              clear hxy
              go_wp2
              go_quiet (fail)
              go_wp2
              go_roundw
              case rel => exact ⟨d + 1, by omega, ret_boolv (by rw [Hn.out, Hf.out, Hye.out, Hxe.out, decide_eq_true He.out]; rfl), by go_num, below_drewN bd2 _, hck3⟩
              case measure => simp [intOf]; omega
            · have He := hideIt hxy
              have hd2 : (y != x) = true := by simp [hxy]
              clear hxy
              go_wp2
              go_quiet (fail)
              go_wp2
              go_roundw
              case rel => exact ⟨d + 1, by omega, ret_boolv (by rw [Hn.out, Hf.out, Hye.out, Hxe.out, decide_eq_false He.out]; rfl), by go_num, below_drewN bd2 _, hck3⟩
              case measure => simp [intOf]; omega
        · obtain rfl : d = k := by omega
          cases hf : newTo ro d d
          · rw [hf, if_neg (by simp)] at Hdf
            have Hd2 := hideIt Hdf.out
            clear hf Hdf
            go_wp2
            go_roundw
            case rel => exact ⟨d + 1, by omega, by rw [Hd2.out], by go_num, bd2⟩
            case measure => simp [intOf]; omega
          · rw [hf, if_pos rfl] at Hdf
            have Hd2 := hideIt Hdf.out
            clear hf Hdf
            go_wp2
            go_roundw
            case rel => exact ⟨d + 1, by omega, by rw [← Hd2.out]; go_num, by go_num, bd2⟩
            case measure => simp [intOf]; omega
    · obtain rfl : k = q := by omega
      go_wp2
      go_ret
      exact ⟨rfl, bd⟩
end Go.Proofs.Ytckjagpjljbohaa

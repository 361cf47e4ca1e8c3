/- Walks: the heap of towns: how its methods are found; Len, Less, Swap. -/
import Derived.Test.YtdnjeahbnidefaaHeap
import Derived.Test.YtdnjeahbnidefaaMaps
import Derived.Test.YtdnjeahbnidefaaParts
import Derived.BigQuiet
import Derived.BigRegion
import Derived.IntWalk
import Derived.Deep.QuietTactic
namespace Go.Proofs.Ytdnjeahbnidefaa
open Go.RowKit

theorem wrapchk (a : Addr) (s1 s2 : ByteArray) (ts : Array TypeId) (ty : TypeId) : Builtin.ssaWrapNilChk_ ts ty #[.pointer (some a), .string s1, .string s2] = pure (.pointer (some a)) := rfl
theorem run_info {P : Program} {t : TypeId} {i : TypeInfo} {w : World} (h : P.info? t = some i) : (typeInfo t).run P w = .ok i w := by
  unfold typeInfo; simp [h, Result.andThen]
/-- a method with a value receiver, called through a pointer: the value is loaded -/
theorem meth_val {P : Program} {t te : TypeId} {name : String} {f : FuncId} {i : TypeInfo} {m : Method} {w : World} {a : Addr} {v : Value} (k : Nat) (hi : P.info? t = some i) (hm : i.methods.find? (·.name == name) = some m) (hp : m.path = #[]) (hf : m.func = some (f, false))
    (hu : P.underlying t = some (.pointer te)) (hd : (isAgg te).run P w = .ok false w) (hc : w.cell? a = some v) :
    (method (k + 1) t (.pointer (some a)) name).run P w = .ok (f, v) w := by
  have h1 : (typeInfo t).run P w = .ok i w := run_info hi
  unfold method
  simp [h1, hm, hp, hf, follow, receiverAt, Place.get, run_underlying hu, strVal, wrapchk, asAddr, loadVar, hd, run_load, hc, Result.andThen]
theorem meth_ptr {P : Program} {t te : TypeId} {name : String} {f : FuncId} {i : TypeInfo} {m : Method} {w : World} {a : Addr} (k : Nat) (hi : P.info? t = some i) (hm : i.methods.find? (·.name == name) = some m) (hp : m.path = #[]) (hf : m.func = some (f, true))
    (hu : P.underlying t = some (.pointer te)) :
    (method (k + 1) t (.pointer (some a)) name).run P w = .ok (f, .pointer (some a)) w := by
  have h1 : (typeInfo t).run P w = .ok i w := run_info hi
  unfold method
  simp [h1, hm, hp, hf, follow, receiverAt, Place.get, run_underlying hu, Result.andThen]
theorem th_info (name : String) (f : FuncId) (b : Bool) (h : (Try.prog.info? 80).bind (fun i => (i.methods.find? (·.name == name)).map (fun m => (m.path.size, m.func))) = some (0, some (f, b))) : ∃ i m, Try.prog.info? 80 = some i ∧ i.methods.find? (·.name == name) = some m ∧ m.path = #[] ∧ m.func = some (f, b) := by
  obtain ⟨i, hi, h⟩ := Option.bind_eq_some_iff.1 h
  obtain ⟨m, hm, h⟩ := Option.map_eq_some_iff.1 h
  injection h with h1 h2
  exact ⟨i, m, hi, hm, Array.eq_empty_of_size_eq_zero h1, h2⟩
theorem agg_th (w : World) : (isAgg 84).run Try.prog w = .ok false w := by kernel_rfl
theorem m_Len {w : World} {a : Addr} {v : Value} (hc : w.cell? a = some v) (T : Nat) (h : 0 < T) : (method T 80 (.pointer (some a)) "Len").run Try.prog w = .ok (62, v) w := by
  obtain ⟨i, m, h1, h2, h3, h4⟩ := th_info "Len" 62 false (by kernel_rfl)
  obtain ⟨k, rfl⟩ : ∃ k, T = k + 1 := ⟨T - 1, by omega⟩
  exact meth_val k h1 h2 h3 h4 Try.underlying80 (agg_th w) hc
theorem m_Less {w : World} {a : Addr} {v : Value} (hc : w.cell? a = some v) (T : Nat) (h : 0 < T) : (method T 80 (.pointer (some a)) "Less").run Try.prog w = .ok (107, v) w := by
  obtain ⟨i, m, h1, h2, h3, h4⟩ := th_info "Less" 107 false (by kernel_rfl)
  obtain ⟨k, rfl⟩ : ∃ k, T = k + 1 := ⟨T - 1, by omega⟩
  exact meth_val k h1 h2 h3 h4 Try.underlying80 (agg_th w) hc
theorem m_Swap {w : World} {a : Addr} {v : Value} (hc : w.cell? a = some v) (T : Nat) (h : 0 < T) : (method T 80 (.pointer (some a)) "Swap").run Try.prog w = .ok (110, v) w := by
  obtain ⟨i, m, h1, h2, h3, h4⟩ := th_info "Swap" 110 false (by kernel_rfl)
  obtain ⟨k, rfl⟩ : ∃ k, T = k + 1 := ⟨T - 1, by omega⟩
  exact meth_val k h1 h2 h3 h4 Try.underlying80 (agg_th w) hc
theorem m_Push {w : World} (a : Addr) (T : Nat) (h : 0 < T) : (method T 80 (.pointer (some a)) "Push").run Try.prog w = .ok (109, .pointer (some a)) w := by
  obtain ⟨i, m, h1, h2, h3, h4⟩ := th_info "Push" 109 true (by kernel_rfl)
  obtain ⟨k, rfl⟩ : ∃ k, T = k + 1 := ⟨T - 1, by omega⟩
  exact meth_ptr k h1 h2 h3 h4 Try.underlying80
theorem m_Pop {w : World} (a : Addr) (T : Nat) (h : 0 < T) : (method T 80 (.pointer (some a)) "Pop").run Try.prog w = .ok (108, .pointer (some a)) w := by
  obtain ⟨i, m, h1, h2, h3, h4⟩ := th_info "Pop" 108 true (by kernel_rfl)
  obtain ⟨k, rfl⟩ : ∃ k, T = k + 1 := ⟨T - 1, by omega⟩
  exact meth_ptr k h1 h2 h3 h4 Try.underlying80

theorem thLen_any (A : Option Addr) (n c : Nat) (w : World) : Calls Try.prog 62 #[.slice A n c] w fun e w' => e = .returned (.int .i64 n) ∧ w = w' := by
  go_enter Try.func62, Try.ntmps62
  go_wp2
  go_ret
  exact ⟨rfl, rfl⟩
abbrev snd2 : Int × Int → Int := fun p => p.2
theorem ky_snd (xs : List (Int × Int)) (k : Nat) : ky snd2 xs k = b2 xs k := rfl
set_option maxHeartbeats 400000 in
theorem thLess_any (g n c base : Nat) (xs : List (Int × Int)) (i j : Nat) (w : World) (r : Bool) (hl : xs.length = n) (ho : w.ownsRow base 82 2 (.slice (some ⟨g, 0, none⟩) n c) n (fl2 xs)) (_hn : n ≤ 1000000) (hi : i < n) (hj : j < n) (hr : decide (ky snd2 xs i < ky snd2 xs j) = r) :
    Calls Try.prog 107 #[.slice (some ⟨g, 0, none⟩) n c, .int .i64 i, .int .i64 j] w fun e w' => e = .returned (.bool r) ∧ ∃ t, w' = w.drewN t := by
  obtain ⟨_, hy⟩ := row2_a ho (k := i) (by omega)
  obtain ⟨_, hy'⟩ := row2_a ho (k := j) (by omega)
  rw [ky_snd, ky_snd] at hr
  obtain ⟨u, hu⟩ : ∃ u, b2 xs i = u := ⟨_, rfl⟩
  obtain ⟨v, hv⟩ : ∃ u, b2 xs j = u := ⟨_, rfl⟩
  rw [hu] at hy hr
  rw [hv] at hy' hr
  have hi2 : (i : Int) < (n : Int) := by omega
  have hj2 : (j : Int) < (n : Int) := by omega
  have Hr := hideIt hr
  clear hu hv hr ho hl
  go_enter Try.func107, Try.ntmps107
  go_wp2
  go_quiet (fail)
  go_wp2
  go_ret
  exact ⟨ret_bool Hr.out, _, rfl⟩
set_option maxHeartbeats 1000000 in
theorem thSwap_any (g n c base : Nat) (xs : List (Int × Int)) (i j : Nat) (w : World) (hl : xs.length = n) (ho : w.ownsRow base 82 2 (.slice (some ⟨g, 0, none⟩) n c) n (fl2 xs)) (_hn : n ≤ 1000000) (hi : i < n) (hj : j < n) :
    Calls Try.prog 110 #[.slice (some ⟨g, 0, none⟩) n c, .int .i64 i, .int .i64 j] w fun e w' => e = .returned (.tuple #[]) ∧ w'.ownsRow base 82 2 (.slice (some ⟨g, 0, none⟩) n c) n (fl2 (swp xs i j)) ∧ w.grownBy w' (some g) := by
  obtain ⟨hx1, hy1⟩ := row2_a ho (k := i) (by omega)
  obtain ⟨hx2, hy2⟩ := row2_a ho (k := j) (by omega)
  have hfr := fun j => ho.frozenAt j
  have hst := row2_store (row2_store ho (k := i) (by omega) (a2 xs j) (b2 xs j)) (k := j) (by rw [List.length_set]; omega) (a2 xs i) (b2 xs i)
  have hset : (xs.set i (a2 xs j, b2 xs j)).set j (a2 xs i, b2 xs i) = swp xs i j := rfl
  rw [hset] at hst
  obtain ⟨x1, ex1⟩ : ∃ u, a2 xs i = u := ⟨_, rfl⟩
  obtain ⟨y1, ey1⟩ : ∃ u, b2 xs i = u := ⟨_, rfl⟩
  obtain ⟨x2, ex2⟩ : ∃ u, a2 xs j = u := ⟨_, rfl⟩
  obtain ⟨y2, ey2⟩ : ∃ u, b2 xs j = u := ⟨_, rfl⟩
  rw [ex1] at hx1 hst
  rw [ey1] at hy1 hst
  rw [ex2] at hx2 hst
  rw [ey2] at hy2 hst
  have hgr := only_setCell (p := ⟨g, j * 2 + 1, none⟩) (only_setCell (p := ⟨g, j * 2, none⟩) (only_setCell (p := ⟨g, i * 2 + 1, none⟩) (only_setCell (p := ⟨g, i * 2, none⟩) (World.grownBy.refl w (some g)) (.inl rfl) (.int .i64 x2)) (.inl rfl) (.int .i64 y2)) (.inl rfl) (.int .i64 x1)) (.inl rfl) (.int .i64 y1)
  have hi2 : (i : Int) < (n : Int) := by omega
  have hj2 : (j : Int) < (n : Int) := by omega
  by_cases e : i = j
  · subst e
    obtain rfl : x1 = x2 := ex1.symm.trans ex2
    obtain rfl : y1 = y2 := ey1.symm.trans ey2
    clear hset ex1 ex2 ey1 ey2 hl
    go_enter Try.func110, Try.ntmps110
    go_wp2
    go_region
    go_wp2
    go_end0
    exact ⟨rfl, hst, hgr.os, hgr.tape, hgr.output, hgr.size, hgr.block⟩
  · clear hset ex1 ex2 ey1 ey2 hl
    go_enter Try.func110, Try.ntmps110
    go_wp2
    go_region
    go_wp2
    go_end0
    exact ⟨rfl, hst, hgr.os, hgr.tape, hgr.output, hgr.size, hgr.block⟩
end Go.Proofs.Ytdnjeahbnidefaa

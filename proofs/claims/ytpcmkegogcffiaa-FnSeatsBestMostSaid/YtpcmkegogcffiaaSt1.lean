/- Walks: sets of legs, tickets, the number of bookings of a kind on a leg. -/
import Derived.Test.YtpcmkegogcffiaaProg
import Derived.Test.YtpcmkegogcffiaaSeat
import Derived.StillTailTactics
import Derived.BigQuiet
namespace Go.Proofs.Ytpcmkegogcffiaa
open Go.RowKit

/-- the set of the legs from one stop to another -/
def lb (f t : Nat) : Int := IntKind.u64.wrap (IntKind.u64.wrap (2 ^ t) - IntKind.u64.wrap (2 ^ f))
theorem lb_meets : ∀ (f t : Fin 9) (leg : Fin 8), f.1 ≤ t.1 → (bits .and .u64 (lb f.1 t.1) (lb leg.1 (leg.1 + 1)) != 0) = (decide (f.1 ≤ leg.1) && decide (leg.1 < t.1)) := by decide +kernel
theorem legsBetween_any (f t : Nat) (w : World) (hf : f ≤ 8) (ht : t ≤ 8) :
    Calls Try.prog 75 #[.int .i64 f, .int .i64 t] w fun e w' => e = .returned (.int .u64 (lb f t)) ∧ w = w' := by
  go_enter Try.func75, Try.ntmps75
  go_wp2
  go_ret
  exact ⟨rfl, rfl⟩
theorem meets_any (a b : Int) (w : World) :
    Calls Try.prog 89 #[.int .u64 a, .int .u64 b] w fun e w' => e = .returned (.bool (bits .and .u64 a b != 0)) ∧ w = w' := by
  go_enter Try.func89, Try.ntmps89
  go_wp2
  go_ret
  exact ⟨rfl, rfl⟩
theorem has_any (f t leg : Nat) (w : World) (hf : f ≤ t) (ht : t ≤ 8) (hl : leg ≤ 7) :
    Calls Try.prog 74 #[.int .u64 (lb f t), .int .i64 leg] w fun e w' => e = .returned (.bool (decide (f ≤ leg) && decide (leg < t))) ∧ w = w' := by
  have h := lb_meets ⟨f, by omega⟩ ⟨t, by omega⟩ ⟨leg, by omega⟩ hf
  rw [← h]
  clear h
  go_enter Try.func74, Try.ntmps74
  go_wp2_with fail
  rw [show ((leg : Int) + 1) = ((leg + 1 : Nat) : Int) by omega]
  refine (legsBetween_any _ _ _ (by omega) (by omega)).mono ?_
  rintro e w' ⟨rfl, rfl⟩
  go_wp2_with fail
  refine (meets_any _ _ _).mono ?_
  rintro e w' ⟨rfl, rfl⟩
  go_wp2
  go_ret
  exact ⟨rfl, rfl⟩
theorem insideLegs_any (x : Int) (w : World) : Calls Try.prog 124 #[.agg #[.int .u64 x]] w (Ret w (.int .u64 x)) := by
  go_enter Try.func124, Try.ntmps124
  go_wp2
  go_ret
  exact ⟨rfl, (Below.refl _ _).alloc (Nat.le_refl _) _⟩
theorem outsideLegs_any (x : Int) (w : World) : Calls Try.prog 125 #[.agg #[.int .u64 x]] w (Ret w (.int .u64 x)) := by
  go_enter Try.func125, Try.ntmps125
  go_wp2
  go_ret
  exact ⟨rfl, (Below.refl _ _).alloc (Nat.le_refl _) _⟩
/-- the ticket of a booking -/
def ticket (f t : Nat) (ins : Bool) : Value := cond ins (.iface 95 (.agg #[.int .u64 (lb f t)])) (.iface 96 (.agg #[.int .u64 (lb f t)]))
theorem ticketOf_any (f t : Nat) (ins : Bool) (w : World) (hf : f ≤ 8) (ht : t ≤ 8) :
    Calls Try.prog 56 #[.agg #[.int .i64 f, .int .i64 t, .bool ins]] w (Ret w (ticket f t ins)) := by
  cases ins
  · go_enter Try.func56, Try.ntmps56
    go_wp2_with fail
    refine (legsBetween_any _ _ _ hf ht).mono ?_
    rintro e w' ⟨rfl, rfl⟩
    go_wp2
    go_ret
    exact ⟨rfl, (Below.refl _ _).alloc (Nat.le_refl _) _⟩
  · go_enter Try.func56, Try.ntmps56
    go_wp2_with fail
    refine (legsBetween_any _ _ _ hf ht).mono ?_
    rintro e w' ⟨rfl, rfl⟩
    go_wp2
    go_ret
    exact ⟨rfl, (Below.refl _ _).alloc (Nat.le_refl _) _⟩
theorem assert_ii (x : Int) (w : World) : Sem.run Try.prog (Instr.typeAssert (.iface 95 (.agg #[.int .u64 x])) 74 95 true) w = .ok (.tuple #[.agg #[.int .u64 x], .bool true]) w := by kernel_rfl
theorem assert_oi (x : Int) (w : World) : Sem.run Try.prog (Instr.typeAssert (.iface 96 (.agg #[.int .u64 x])) 74 95 true) w = .ok (.tuple #[.agg #[.int .u64 0], .bool false]) w := by kernel_rfl
theorem assert_oo (x : Int) (w : World) : Sem.run Try.prog (Instr.typeAssert (.iface 96 (.agg #[.int .u64 x])) 74 96 true) w = .ok (.tuple #[.agg #[.int .u64 x], .bool true]) w := by kernel_rfl
theorem method_i (T : Nat) (x : Int) (w : World) (h : 0 < T) : (method T 95 (.agg #[.int .u64 x]) "loop.example/mailcoaches/impl.legs").run Try.prog w = .ok (124, .agg #[.int .u64 x]) w := by
  cases T with
  | zero => omega
  | succ T => kernel_rfl
theorem method_o (T : Nat) (x : Int) (w : World) (h : 0 < T) : (method T 96 (.agg #[.int .u64 x]) "loop.example/mailcoaches/impl.legs").run Try.prog w = .ok (125, .agg #[.int .u64 x]) w := by
  cases T with
  | zero => omega
  | succ T => kernel_rfl
theorem seatsOf_any (f t : Nat) (ins : Bool) (w : World) :
    Calls Try.prog 55 #[ticket f t ins] w fun e w' => e = .returned (.int .i64 (cond ins 4 6)) ∧ w = w' := by
  have h1 := assert_ii
  have h2 := assert_oi
  have h3 := assert_oo
  cases ins
  · unfold ticket
    go_enter Try.func55, Try.ntmps55
    go_wp2
    go_ret
    exact ⟨rfl, rfl⟩
  · unfold ticket
    go_enter Try.func55, Try.ntmps55
    go_wp2
    go_ret
    exact ⟨rfl, rfl⟩
end Go.Proofs.Ytpcmkegogcffiaa

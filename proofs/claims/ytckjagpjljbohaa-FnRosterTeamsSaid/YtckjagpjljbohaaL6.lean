/- Walks: the reference's test of a range. -/
import Derived.Test.YtckjagpjljbohaaProg
import Derived.Test.YtckjagpjljbohaaBase
namespace Go.Proofs.Ytckjagpjljbohaa
open Go.RowKit

theorem l6In_any (n lo hi : Int) (w : World) (r : Bool) (hr : (decide (lo ≤ n) && decide (n ≤ hi)) = r) :
    Calls Try.prog 23 #[.int .i64 n, .int .i64 lo, .int .i64 hi] w fun e w' => e = .returned (.bool r) ∧ w = w' := by
  subst hr
  go_enter Try.func23, Try.ntmps23
  go_wp2
  all_goals go_ret
  all_goals exact ⟨ret_bool (by simp; try omega), rfl⟩
theorem l6In_t (n lo hi : Int) (w : World) (h1 : lo ≤ n) (h2 : n ≤ hi) :
    Calls Try.prog 23 #[.int .i64 n, .int .i64 lo, .int .i64 hi] w fun e w' => e = .returned (.bool true) ∧ w = w' :=
  l6In_any n lo hi w true (by simp [h1, h2])
theorem l6In_f (n lo hi : Int) (w : World) (h : n < lo ∨ hi < n) :
    Calls Try.prog 23 #[.int .i64 n, .int .i64 lo, .int .i64 hi] w fun e w' => e = .returned (.bool false) ∧ w = w' :=
  l6In_any n lo hi w false (by simp; omega)
/-- the same, for a region that draws its order -/
theorem l6In_qt (n lo hi : Int) (w : World) (h1 : lo ≤ n) (h2 : n ≤ hi) : Calls Try.prog 23 #[.int .i64 n, .int .i64 lo, .int .i64 hi] w fun e w' => e = .returned (.bool true) ∧ w' = w :=
  (l6In_t n lo hi w h1 h2).mono fun _ _ ⟨a, b⟩ => ⟨a, b.symm⟩
theorem l6In_qf (n lo hi : Int) (w : World) (h : n < lo ∨ hi < n) : Calls Try.prog 23 #[.int .i64 n, .int .i64 lo, .int .i64 hi] w fun e w' => e = .returned (.bool false) ∧ w' = w :=
  (l6In_f n lo hi w h).mono fun _ _ ⟨a, b⟩ => ⟨a, b.symm⟩
end Go.Proofs.Ytckjagpjljbohaa

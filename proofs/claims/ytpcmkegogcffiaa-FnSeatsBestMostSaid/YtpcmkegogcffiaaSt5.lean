/- BookingsValid's contracts with their value. -/
import Derived.Test.YtpcmkegogcffiaaSt3
import Derived.Test.YtpcmkegogcffiaaSt4
namespace Go.Proofs.Ytpcmkegogcffiaa
open Go.RowKit

theorem implBookingsValid_v (n : Int) (A : Option Addr) (ls : List (Int × Int × Bool)) (m cap : Nat) (w : World) (hl : ls.length = m) (hm : m ≤ 1048576) (hr : Rd w A (flB ls)) :
    Calls Try.prog 50 #[.int .i64 n, .slice A m cap] w (Ret w (.bool (bValid n ls))) := implBookingsValid_any n A ls m cap w _ hl hm hr rfl
theorem specBookingsValid_v (n : Int) (A : Option Addr) (ls : List (Int × Int × Bool)) (m cap : Nat) (w : World) (hl : ls.length = m) (hm : m ≤ 1048576) (hr : Rd w A (flB ls)) :
    Calls Try.prog 52 #[.int .i64 n, .slice A m cap] w (Ret w (.bool (bValid n ls))) := specBookingsValid_any n A ls m cap w _ hl hm hr rfl
end Go.Proofs.Ytpcmkegogcffiaa

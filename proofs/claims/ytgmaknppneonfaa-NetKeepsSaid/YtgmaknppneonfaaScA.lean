/- Layer 14: what all its laws stand on. -/
import Derived.Test.YtgmaknppneonfaaScF
import Derived.Test.YtgmaknppneonfaaEngZR
import Derived.IntWalk
set_option linter.unusedSimpArgs false
set_option linter.unusedVariables false
namespace Go.Eng.SeatC
open Go.Proofs
theorem mixed : Try.prog.follows .mixedOrders = true := by kernel_rfl
end Go.Eng.SeatC

/- The fact about timetables is true. No condition. -/
import Derived.Test.YthjejgaekoopnaaPlTimedLastsa
namespace Go.Proofs.Ythjejgaekoopnaa.Rw
open Go.Rx
set_option linter.unusedVariables false
set_option linter.unusedSimpArgs false
theorem f47_true (j : Nat) : f47 (j + 30) = some (true, ()) := by kernel_rfl
end Go.Proofs.Ythjejgaekoopnaa.Rw

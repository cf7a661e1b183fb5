/- The fact about timetables is true. No condition. -/
import Derived.Test.YthjejgaekoopnaaPlTimedEarlierj
namespace Go.Proofs.Ythjejgaekoopnaa.Rw
open Go.Rx
set_option linter.unusedVariables false
set_option linter.unusedSimpArgs false
theorem f52_true (j : Nat) : f52 (j + 30) = some (true, ()) := by kernel_rfl
end Go.Proofs.Ythjejgaekoopnaa.Rw

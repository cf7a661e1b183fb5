/- The fact about timetables is true. No condition. -/
import Derived.Test.YtpbmlhlpfbcnbaaPlTimedHoursf
namespace Go.Proofs.Ytpbmlhlpfbcnbaa.Rw
open Go.Rx
set_option linter.unusedVariables false
set_option linter.unusedSimpArgs false
theorem f19_true (j : Nat) : f19 (j + 30) = some (true, ()) := by kernel_rfl
end Go.Proofs.Ytpbmlhlpfbcnbaa.Rw
